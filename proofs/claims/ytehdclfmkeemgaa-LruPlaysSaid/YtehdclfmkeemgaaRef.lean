/- What the reference functions of chapter 6 answer: those that only read. -/
import Derived.Test.YtehdclfmkeemgaaApp
namespace Go.Proofs.Ytehdclfmkeemgaa
open Go.RowKit
attribute [local irreducible] wpQuiet
attribute [local go_sem high] run_mxI run_mnI

def placeI (o : Option Nat) : Int := match o with
  | some i => i
  | none => -1
theorem Holds.box {w : World} {A : Option Addr} {xs : List Value} (h : Holds w w.heap.size A xs) (o : Obj) : Holds (w.alloc o) w.heap.size A xs := h.below ((Below.refl _ _).alloc (Nat.le_refl _) o)

section
variable {w : World} {M : Int} {A : Option Addr} {c n : Nat} {L : List Ent}
set_option maxHeartbeats 400000 in
theorem find_any (h : Hid (Holds w w.heap.size A (ecs L))) (hn : L.length = n) (hl : n ≤ 1000) (x : Int) :
    Calls Try.prog 30 #[.agg #[.int .i64 M, .slice A n c], .int .i64 x] w fun e w' => e = .returned (.int .i64 (placeI (L.findIdx? fun e => e.key == x))) ∧ Below w.heap.size w w' := by
  obtain ⟨r, hr⟩ : ∃ r, r = placeI (L.findIdx? fun e => e.key == x) := ⟨_, rfl⟩
  rw [← hr]
  have HR := hid hr
  have HN := hid hn
  clear hr hn
  go_enter Try.func30, Try.ntmps30
  go_wp2_with fail
  go_loop [5] (fun i => ∃ k : Nat, k ≤ n ∧ i = .int .i64 k ∧ Hid (∀ j, (hj : j < k) → (hl : j < L.length) → L[j].key ≠ x)) (fun i => n - (intOf i).toNat)
  case atStart => exact ⟨0, by omega, rfl, fun j hj => absurd hj (by omega)⟩
  case round =>
    obtain ⟨k, hk, rfl, hs⟩ := hrel
    by_cases hkn : k < n
    · have hkl : k < L.length := by rw [HN.out]; exact hkn
      obtain ⟨e, he⟩ : ∃ e, L[k]? = some e := ⟨_, List.getElem?_eq_getElem hkl⟩
      obtain ⟨ad, rfl, hb, hc0, _, _⟩ := ent_at (h.out.box (.cells #[.int .i64 M, .slice A n c] 29)) he
      have HE := hid he
      have hkl' := hid hkl
      clear he hb hkl
      by_cases hxy : e.key = x
      · have hbb : (e.key == x) = true := by simpa using hxy
        have HX := hid hxy
        clear hxy
        go_wp2_with fail
        go_ret
        have hf : L.findIdx? (fun e => e.key == x) = some k := by
          refine List.findIdx?_eq_some_iff_getElem.2 ⟨hkl'.out, ?_, fun j hj => ?_⟩
          · have := HE.out
            rw [List.getElem?_eq_getElem hkl'.out] at this
            rw [Option.some.inj this]
            simpa using HX.out
          · simpa using hs.out j hj (by have := hkl'.out; omega)
        rw [HR.out, hf]
        exact ⟨rfl, (Below.refl _ _).alloc (Nat.le_refl _) _⟩
      · have hbb : (e.key == x) = false := by simpa using hxy
        go_wp2_with fail
        go_round
        case rel => exact ⟨k + 1, by omega, by go_num, hid fun j hj hl' => by
          rcases Nat.lt_or_ge j k with h1 | h1
          · exact hs.out j h1 hl'
          · obtain rfl : j = k := by omega
            have := HE.out
            rw [List.getElem?_eq_getElem hl'] at this
            rw [Option.some.inj this]
            exact hxy⟩
        case measure => simp [intOf]; omega
    · obtain rfl : k = n := by omega
      go_wp2_with fail
      go_ret
      have hf : L.findIdx? (fun e => e.key == x) = none := by
        refine List.findIdx?_eq_none_iff.2 fun z hz => ?_
        obtain ⟨i, hi, rfl⟩ := List.getElem_of_mem hz
        simpa using hs.out i (by rw [← HN.out]; exact hi) hi
      rw [HR.out, hf]
      exact ⟨rfl, (Below.refl _ _).alloc (Nat.le_refl _) _⟩
set_option maxHeartbeats 400000 in
theorem loose_any (h : Hid (Holds w w.heap.size A (ecs L))) (hn : L.length = n) (hl : n ≤ 1000) :
    Calls Try.prog 26 #[.agg #[.int .i64 M, .slice A n c]] w fun e w' => e = .returned (.int .i64 (placeI (looseI L))) ∧ Below w.heap.size w w' := by
  obtain ⟨r, hr⟩ : ∃ r, r = placeI (looseI L) := ⟨_, rfl⟩
  rw [← hr]
  have HR := hid hr
  have HN := hid hn
  clear hr hn
  go_enter Try.func26, Try.ntmps26
  go_wp2_with fail
  go_loop [3] (fun i => ∃ k : Nat, k ≤ n ∧ i = .int .i64 k ∧ Hid (∀ j, (hj : j < k) → (hl : j < L.length) → L[j].p = true)) (fun i => n - (intOf i).toNat)
  case atStart => exact ⟨0, by omega, rfl, fun j hj => absurd hj (by omega)⟩
  case round =>
    obtain ⟨k, hk, rfl, hs⟩ := hrel
    by_cases hkn : k < n
    · have hkl : k < L.length := by rw [HN.out]; exact hkn
      obtain ⟨e, he⟩ : ∃ e, L[k]? = some e := ⟨_, List.getElem?_eq_getElem hkl⟩
      obtain ⟨ad, rfl, hb, _, _, hc2⟩ := ent_at (h.out.box (.cells #[.int .i64 M, .slice A n c] 29)) he
      have HE := hid he
      have hkl' := hid hkl
      clear he hb hkl
      obtain ⟨q, hq⟩ : ∃ q, q = e.p := ⟨_, rfl⟩
      rw [← hq] at hc2
      have HQ := hid hq
      clear hq
      cases q with
      | false =>
        go_wp2_with fail
        go_ret
        have hf : looseI L = some k := by
          refine List.findIdx?_eq_some_iff_getElem.2 ⟨hkl'.out, ?_, fun j hj => ?_⟩
          · have := HE.out
            rw [List.getElem?_eq_getElem hkl'.out] at this
            rw [Option.some.inj this, ← HQ.out]
            rfl
          · simpa using hs.out j hj (by have := hkl'.out; omega)
        rw [HR.out, hf]
        exact ⟨rfl, (Below.refl _ _).alloc (Nat.le_refl _) _⟩
      | true =>
        go_wp2_with fail
        go_round
        case rel => exact ⟨k + 1, by omega, by go_num, hid fun j hj hl' => by
          rcases Nat.lt_or_ge j k with h1 | h1
          · exact hs.out j h1 hl'
          · obtain rfl : j = k := by omega
            have := HE.out
            rw [List.getElem?_eq_getElem hl'] at this
            rw [Option.some.inj this]
            exact HQ.out.symm⟩
        case measure => simp [intOf]; omega
    · obtain rfl : k = n := by omega
      go_wp2_with fail
      go_ret
      have hf : looseI L = none := by
        refine List.findIdx?_eq_none_iff.2 fun z hz => ?_
        obtain ⟨i, hi, rfl⟩ := List.getElem_of_mem hz
        simpa using hs.out i (by rw [← HN.out]; exact hi) hi
      rw [HR.out, hf]
      exact ⟨rfl, (Below.refl _ _).alloc (Nat.le_refl _) _⟩
theorem total_snoc (L : List Ent) {k : Nat} {e : Ent} (he : L[k]? = some e) : total (L.take (k + 1)) = total (L.take k) + e.v.size := by
  have hk : k < L.length := (List.getElem?_eq_some_iff.1 he).1
  rw [List.take_succ_eq_append_getElem hk]
  have : L[k] = e := by rw [List.getElem?_eq_getElem hk] at he; exact Option.some.inj he
  simp [total, this]
set_option maxHeartbeats 400000 in
theorem sum_any (h : Hid (Holds w w.heap.size A (ecs L))) (hn : L.length = n) (hl : n ≤ 1000) (ht : total L ≤ 1000000) :
    Calls Try.prog 23 #[.agg #[.int .i64 M, .slice A n c]] w fun e w' => e = .returned (.int .i64 (total L : Nat)) ∧ Below w.heap.size w w' := by
  obtain ⟨r, hr⟩ : ∃ r, r = total L := ⟨_, rfl⟩
  rw [← hr]
  have HR := hid hr
  have HN := hid hn
  clear hr hn
  go_enter Try.func23, Try.ntmps23
  go_wp2_with fail
  go_loop [3, 4] (fun s i => ∃ k : Nat, k ≤ n ∧ i = .int .i64 k ∧ s = .int .i64 (total (L.take k) : Nat)) (fun _ i => n - (intOf i).toNat)
  case atStart => exact ⟨0, by omega, rfl, by simp [total]⟩
  case round =>
    obtain ⟨k, hk, rfl, rfl⟩ := hrel
    by_cases hkn : k < n
    · have hkl : k < L.length := by rw [HN.out]; exact hkn
      obtain ⟨e, he⟩ : ∃ e, L[k]? = some e := ⟨_, List.getElem?_eq_getElem hkl⟩
      obtain ⟨ad, rfl, hb, _, hc1, _⟩ := ent_at (h.out.box (.cells #[.int .i64 M, .slice A n c] 29)) he
      have HT := hid (total_snoc L he)
      have hle : total (L.take k) + e.v.size ≤ 1000000 := by
        rw [← HT.out]
        exact Nat.le_trans (total_sub (List.take_sublist _ _)) ht
      clear he hb hkl
      go_wp2_with fail
      go_round
      case rel => exact ⟨k + 1, by omega, by go_num, by rw [HT.out]; go_num⟩
      case measure => simp [intOf]; omega
    · obtain rfl : k = n := by omega
      have hk2 := hid (show total (L.take k) = r by rw [HR.out, ← HN.out, List.take_length])
      go_wp2_with fail
      go_ret
      rw [hk2.out]
      exact ⟨rfl, (Below.refl _ _).alloc (Nat.le_refl _) _⟩
theorem keys_snoc (L : List Ent) {k : Nat} {e : Ent} (he : L[k]? = some e) : keysL (L.take (k + 1)) = keysL (L.take k) ++ [e.key] := by
  have hk : k < L.length := (List.getElem?_eq_some_iff.1 he).1
  rw [List.take_succ_eq_append_getElem hk]
  have : L[k] = e := by rw [List.getElem?_eq_getElem hk] at he; exact Option.some.inj he
  simp [keysL, this]
set_option maxHeartbeats 400000 in
theorem refkeys_any (h : Hid (Holds w w.heap.size A (ecs L))) (hn : L.length = n) (hl : n ≤ 1000) :
    Calls Try.prog 21 #[.agg #[.int .i64 M, .slice A n c]] w fun e w' => ∃ A' c', e = .returned (.slice A' n c') ∧ IntsAt w' w'.heap.size A' (keysL L) ∧ Below w.heap.size w w' := by
  have HN := hid hn
  clear hn
  go_enter Try.func21, Try.ntmps21
  go_wp2_with fail
  go_loopw [3, 4] (fun v i wr => ∃ k : Nat, k ≤ n ∧ i = .int .i64 k ∧ Hid (wr.ownsRow (w.heap.size + 1) 3 1 v k (nums (keysL (L.take k))) ∧ Below (w.heap.size + 1) (w.alloc (.cells #[.int .i64 M, .slice A n c] 29)) wr)) (fun _ i _ => n - (intOf i).toNat)
  case atStart => exact ⟨0, by omega, rfl, by simpa [nums, keysL] using World.ownsRow_nil _ _ _ _, Below.refl _ _⟩
  case round =>
    obtain ⟨k, hk, rfl, hR⟩ := hrel
    obtain ⟨Ao, co, hv⟩ := own_form hR.out.1
    subst hv
    have hbx := (Blk.new w 29 #[.int .i64 M, .slice A n c]).below hR.out.2 (by omega)
    have b1 : wr.cell? ⟨w.heap.size, 1, none⟩ = some (.slice A n c) := by rw [hbx.cell]; rfl
    have hzs := hR.out.2.size
    simp at hzs
    clear hbx
    by_cases hkn : k < n
    · have hkl : k < L.length := by rw [HN.out]; exact hkn
      obtain ⟨e, he⟩ : ∃ e, L[k]? = some e := ⟨_, List.getElem?_eq_getElem hkl⟩
      obtain ⟨ad, rfl, hb, hc0, _, _⟩ := ent_at ((h.out.box (.cells #[.int .i64 M, .slice A n c] 29)).below (hR.out.2.mono (by omega))) he
      have HS := hid (keys_snoc L he)
      have hsz := hid (show (k + [Value.int .i64 e.key].length) * 8 ≤ 140737488355328 by simp; omega)
      clear he hb hkl
      have hnl := hid (show (nums (keysL (L.take k))).length = k by have := hR.out.1.1; omega)
      go_wp2_with (at_builtin; refine wpList_app _ rfl (.tmp 12) (.tmp 19) 33 3 (.int .i64 0) 8 rfl Try.underlying33 info3 rfl (by decide) (w.heap.size + 1) (.slice Ao k co) (nums (keysL (L.take k))) rfl ?own (wr.alloc (.cells #[.int .i64 e.key] 3)).heap.size (some ⟨wr.heap.size, 0, none⟩) 1 1 [.int .i64 e.key] rfl rfl ?hold ?one (by rw [hnl.out]; exact hsz.out) ?base ?_)
      case own => rw [hnl.out]; exact hR.out.1.alloc _
      case hold => exact Holds.of_blk (Blk.new wr 3 #[.int .i64 e.key]) 0 1 (by simp)
      case one =>
        intro u hu
        simp only [List.mem_singleton] at hu
        subst hu
        rfl
      case base => simp; omega
      intro v4 w4 hown4 hg4 _
      have HO4 := hid hown4
      have HG4 := hid hg4
      clear hown4 hg4
      go_wp2_with fail
      go_roundw
      case rel => exact ⟨k + 1, by omega, by go_num, hid (by
        rw [HS.out]
        refine ⟨?_, (hR.out.2.alloc (by omega) _).grown HG4.out (by simp; omega) (fun q hq => own_ge hR.out.1 q hq)⟩
        have := HO4.out
        rw [hnl.out] at this
        rw [nums_append]
        exact this)⟩
      case measure => simp [intOf]; omega
    · obtain rfl : k = n := by omega
      have ht : Hid (L.take k = L) := hid (by rw [← HN.out, List.take_length])
      go_wp2_with fail
      go_ret
      have h1 := hR.out
      rw [ht.out] at h1
      refine ⟨_, _, rfl, IntsAt.of_holds (Holds.of_own (c := co) (n := k) h1.1), ((Below.refl _ _).alloc (Nat.le_refl _) _).trans (h1.2.mono (by omega))⟩
end
end Go.Proofs.Ytehdclfmkeemgaa
