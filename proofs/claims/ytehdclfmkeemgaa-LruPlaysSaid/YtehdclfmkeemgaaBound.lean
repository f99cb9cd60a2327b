/- What LruBound uses: is a key in a list, a list without a key; and that what is pinned does not go for want of room. -/
import Derived.Test.YtehdclfmkeemgaaLawsA
namespace Go.Proofs.Ytehdclfmkeemgaa
open Go.RowKit
attribute [local irreducible] wpQuiet
attribute [local go_sem high] run_mxI run_mnI

theorem in_any {A : Option Addr} {n c B : Nat} {xs : List Int} {w : World} (x : Int) (h : Hid (IntsAt w B A xs)) (hn : xs.length = n) (hl : n ≤ 1000) :
    Calls Try.prog 25 #[.slice A n c, .int .i64 x] w fun e w' => e = .returned (.bool (decide (x ∈ xs))) ∧ w = w' := by
  obtain ⟨r, hr⟩ : ∃ r, r = decide (x ∈ xs) := ⟨_, rfl⟩
  rw [← hr]
  have HR := hid hr
  clear hr
  have HN := hid hn
  clear hn
  go_enter Try.func25, Try.ntmps25
  go_wp2
  go_loop [5] (fun i => ∃ k : Nat, k ≤ n ∧ i = .int .i64 k ∧ Hid (∀ j, j < k → xs.getD j 0 ≠ x)) (fun i => n - (intOf i).toNat)
  case atStart => exact ⟨0, by omega, rfl, fun j hj => absurd hj (by omega)⟩
  case round =>
    obtain ⟨k, hk, rfl, hs⟩ := hrel
    by_cases hkn : k < n
    · have hx := HN.out
      obtain ⟨ad, rfl, _, hc⟩ := h.out (by omega)
      have hc1 := hc k (by omega)
      obtain ⟨y, hy⟩ : ∃ y, y = xs.getD k 0 := ⟨_, rfl⟩
      rw [← hy] at hc1
      have HY := hid hy
      clear hy hc hx
      by_cases hxy : y = x
      · subst hxy
        go_wp2
        go_ret
        have hx := HN.out
        have hm : y ∈ xs := by
          rw [HY.out, List.getD_eq_getElem?_getD, List.getElem?_eq_getElem (by omega)]
          exact List.getElem_mem _
        rw [HR.out]
        exact ⟨by simp [hm], rfl⟩
      · have hb : (y == x) = false := by simpa using hxy
        go_wp2
        go_round
        case rel => exact ⟨k + 1, by omega, by go_num, hid fun j hj => by
          rcases Nat.lt_or_ge j k with h1 | h1
          · exact hs.out j h1
          · obtain rfl : j = k := by omega
            rw [← HY.out]; exact hxy⟩
        case measure => simp [intOf]; omega
    · obtain rfl : k = n := by omega
      go_wp2
      go_ret
      have hx := HN.out
      have hm : x ∉ xs := fun hm => by
        obtain ⟨i, hi, he⟩ := List.getElem_of_mem hm
        exact hs.out i (by omega) (by rw [List.getD_eq_getElem?_getD, List.getElem?_eq_getElem hi]; exact he)
      rw [HR.out]
      exact ⟨by simp [hm], rfl⟩

def outL (xs : List Int) (x : Int) : List Int := xs.filter fun y => decide (y ≠ x)
theorem outL_len (xs : List Int) (x : Int) : (outL xs x).length ≤ xs.length := List.length_filter_le _ _
theorem outL_snoc (xs : List Int) (x : Int) (k : Nat) (h : k < xs.length) : outL (xs.take (k + 1)) x = outL (xs.take k) x ++ if xs.getD k 0 = x then [] else [xs.getD k 0] := by
  have hg : xs.getD k 0 = xs[k] := by rw [List.getD_eq_getElem?_getD, List.getElem?_eq_getElem h]; rfl
  unfold outL
  rw [List.take_succ_eq_append_getElem h, List.filter_append, hg]
  by_cases e : xs[k] = x <;> simp [e]

set_option maxHeartbeats 400000 in
theorem without_any {A : Option Addr} {n c B : Nat} {xs : List Int} {w : World} (x : Int) (h : Hid (IntsAt w B A xs)) (hB : B ≤ w.heap.size) (hn : xs.length = n) (hl : n ≤ 1000) :
    Calls Try.prog 24 #[.slice A n c, .int .i64 x] w fun e w' => ∃ A' c', e = .returned (.slice A' (outL xs x).length c') ∧ w'.ownsRow w.heap.size 3 1 (.slice A' (outL xs x).length c') (outL xs x).length (nums (outL xs x)) ∧ Below w.heap.size w w' := by
  have HN := hid hn
  clear hn
  go_enter Try.func24, Try.ntmps24
  go_wp2
  go_loopw [5, 6] (fun v i wr => ∃ k : Nat, k ≤ n ∧ i = .int .i64 k ∧ Hid (wr.ownsRow w.heap.size 3 1 v (outL (xs.take k) x).length (nums (outL (xs.take k) x)) ∧ Below w.heap.size w wr)) (fun _ i _ => n - (intOf i).toNat)
  case atStart => exact ⟨0, by omega, rfl, by simpa [outL, nums] using World.ownsRow_nil _ _ _ _, Below.refl _ _⟩
  case round =>
    obtain ⟨k, hk, rfl, hR⟩ := hrel
    obtain ⟨Ao, co, hv⟩ := own_form hR.out.1
    subst hv
    by_cases hkn : k < n
    · have hx := HN.out
      obtain ⟨ad, rfl, hab, hc⟩ := (h.out.keep fun q hq => hR.out.2.block q (by omega)) (by omega)
      have hc1 := hc k (by omega)
      have hsn := outL_snoc xs x k (by omega)
      have hll := Nat.le_trans (outL_len (xs.take k) x) (List.length_take_le k xs)
      obtain ⟨y, hy⟩ : ∃ y, y = xs.getD k 0 := ⟨_, rfl⟩
      rw [← hy] at hc1 hsn
      have HS := hid hsn
      clear hy hc hx hsn
      by_cases hxy : y = x
      · have hb : (y != x) = false := by simpa using hxy
        go_wp2_with fail
        go_roundw
        case rel => exact ⟨k + 1, by omega, by go_num, hid (by rw [HS.out, if_pos hxy, List.append_nil]; exact hR.out)⟩
        case measure => simp [intOf]; omega
      · have hb : (y != x) = true := by simpa using hxy
        have hsz := hid (show ((nums (outL (xs.take k) x)).length + [Value.int .i64 y].length) * 8 ≤ 140737488355328 by rw [nums_length]; simp; omega)
        go_wp2_with (at_builtin; refine wpList_app _ rfl (.tmp 19) (.tmp 24) 33 3 (.int .i64 0) 8 rfl Try.underlying33 info3 rfl (by decide) w.heap.size (.slice Ao (outL (xs.take k) x).length co) (nums (outL (xs.take k) x)) rfl ?own (wr.alloc (.cells #[.int .i64 y] 3)).heap.size (some ⟨wr.heap.size, 0, none⟩) 1 1 [.int .i64 y] rfl rfl ?hold ?one hsz.out ?base ?_)
        case own => rw [nums_length]; exact hR.out.1.alloc _
        case hold => exact Holds.of_blk (Blk.new wr 3 #[.int .i64 y]) 0 1 (by simp)
        case one =>
          intro u hu
          simp only [List.mem_singleton] at hu
          subst hu
          rfl
        case base =>
          have := hR.out.2.size
          simp
          omega
        intro v4 w4 hown4 hg4 _
        have HO4 := hid hown4
        have HG4 := hid hg4
        clear hown4 hg4
        go_wp2_with fail
        go_roundw
        case rel => exact ⟨k + 1, by omega, by go_num, hid (by
          rw [HS.out, if_neg hxy]
          refine ⟨?_, (hR.out.2.alloc hR.out.2.size _).grown HG4.out (by have := hR.out.2.size; simp; omega) (fun q hq => own_ge hR.out.1 q hq)⟩
          have := HO4.out
          rw [nums_length] at this
          rw [show nums (outL (xs.take k) x ++ [y]) = nums (outL (xs.take k) x) ++ [Value.int .i64 y] by simp [nums], List.length_append]
          exact this)⟩
        case measure => simp [intOf]; omega
    · obtain rfl : k = n := by omega
      have ht : Hid (xs.take k = xs) := hid (by rw [← HN.out, List.take_length])
      go_wp2_with fail
      go_ret
      have h1 := hR.out
      rw [ht.out] at h1 ⊢
      exact ⟨_, _, rfl, h1.1, h1.2⟩

/-! ### plain words -/
theorem goneL_mem {L : List Ent} {x : Int} {e : Ent} (he : e ∈ L) (hk : e.key ≠ x) : e ∈ goneL L x := by
  cases hf : L.findIdx? (fun e => e.key == x) with
  | none => rw [(goneL_none hf).2]; exact he
  | some i =>
    obtain ⟨z, hz, hzk, hg⟩ := goneL_some hf
    rw [hg]
    have hp := (erase_perm hz).mem_iff.2 he
    rcases List.mem_append.1 hp with h | h
    · exact h
    · obtain rfl := List.mem_singleton.1 h
      exact absurd hzk hk
theorem evict_keeps {M n : Nat} : ∀ (k : Nat) (L : List Ent) {e : Ent}, e ∈ L → e.p = true → e ∈ (evictL M n k L).1 := by
  intro k
  induction k with
  | zero => intro L e he _; exact he
  | succ k ih =>
    intro L e he hp
    unfold evictL
    split
    · split
      · rename_i i hi
        obtain ⟨z, hz, hzp, _⟩ := loose_some hi
        refine ih _ ?_ hp
        have hq := (erase_perm hz).mem_iff.2 he
        rcases List.mem_append.1 hq with h | h
        · exact h
        · obtain rfl := List.mem_singleton.1 h
          rw [hp] at hzp
          cases hzp
      · exact he
    · exact he
theorem evict_outs {M n : Nat} : ∀ (k : Nat) (L : List Ent), ∀ y ∈ (evictL M n k L).2, ∃ e ∈ L, e.key = y ∧ e.p = false := by
  intro k
  induction k with
  | zero => intro L y hy; cases hy
  | succ k ih =>
    intro L y hy
    unfold evictL at hy
    split at hy
    · split at hy
      · rename_i i hi
        obtain ⟨z, hz, hzp, _⟩ := loose_some hi
        rw [hz] at hy
        rcases List.mem_cons.1 hy with h | h
        · exact ⟨z, List.mem_of_getElem? hz, h.symm, hzp⟩
        · obtain ⟨e, he, h1, h2⟩ := ih _ y h
          exact ⟨e, List.mem_of_mem_eraseIdx he, h1, h2⟩
      · cases hy
    · cases hy
theorem evict_len {M n : Nat} : ∀ (k : Nat) (L : List Ent), (evictL M n k L).2.length ≤ k := by
  intro k
  induction k with
  | zero => intro L; exact Nat.le_refl _
  | succ k ih =>
    intro L
    unfold evictL
    split
    · split
      · simp only [List.length_cons]; have := ih (L.eraseIdx (by assumption)); omega
      · simp
    · simp
theorem putL_outs (M : Nat) (L : List Ent) (x : Int) (v : ByteArray) (g : Nat) : (putL M L x v g).2.length ≤ L.length := by
  have h1 := (goneL_sub L x).length_le
  have h2 := evict_len (M := M) (n := v.size) (goneL L x).length (goneL L x)
  unfold putL
  split
  · simp
  · split
    · omega
    · exact Nat.le_trans h2 h1
/-- Each key of ps is kept and pinned. -/
def PinsIn (L : List Ent) (ps : List Int) : Prop := ∀ y ∈ ps, ∃ e ∈ L, e.key = y ∧ e.p = true
theorem outL_mem {ps : List Int} {x y : Int} (h : y ∈ outL ps x) : y ∈ ps ∧ y ≠ x := by simpa [outL] using h
theorem PinsIn.gone {L : List Ent} {ps : List Int} (h : PinsIn L ps) (x : Int) : PinsIn (goneL L x) (outL ps x) := fun y hy => by
  obtain ⟨h1, h2⟩ := outL_mem hy
  obtain ⟨e, he, hk, hp⟩ := h y h1
  exact ⟨e, goneL_mem he (by rw [hk]; exact h2), hk, hp⟩
theorem PinsIn.put {L : List Ent} {ps : List Int} (h : PinsIn L ps) (M : Nat) (x : Int) (v : ByteArray) (g : Nat) : PinsIn (putL M L x v g).1 (outL ps x) := fun y hy => by
  obtain ⟨e, he, hk, hp⟩ := h.gone x y hy
  refine ⟨e, ?_, hk, hp⟩
  unfold putL
  split
  · exact he
  · split
    · exact evict_keeps _ _ he hp
    · exact List.mem_append.2 (.inl (evict_keeps _ _ he hp))
theorem key_one {L : List Ent} (hn : (keysL L).Nodup) {e z : Ent} (he : e ∈ L) (hz : z ∈ L) (hk : e.key = z.key) : e = z := by
  obtain ⟨i, hi, rfl⟩ := List.getElem_of_mem he
  obtain ⟨j, hj, rfl⟩ := List.getElem_of_mem hz
  have h3 : (keysL L)[i]'(by simpa [keysL] using hi) = (keysL L)[j]'(by simpa [keysL] using hj) := by simpa [keysL] using hk
  have := (List.getElem_inj hn).1 h3
  subst this
  rfl
theorem PinsIn.outs {L : List Ent} {ps : List Int} (h : PinsIn L ps) (hn : (keysL L).Nodup) {M : Nat} {x : Int} {v : ByteArray} {g : Nat} : ∀ y ∈ (putL M L x v g).2, y ∉ outL ps x ∧ y ≠ x := by
  intro y hy
  have ho : ∃ e ∈ goneL L x, e.key = y ∧ e.p = false := by
    unfold putL at hy
    split at hy
    · cases hy
    · split at hy
      · exact evict_outs _ _ y hy
      · exact evict_outs _ _ y hy
  obtain ⟨e, he, hk, hp⟩ := ho
  refine ⟨fun hm => ?_, fun e' => goneL_not hn x e he (by rw [hk, e'])⟩
  obtain ⟨z, hz, hzk, hzp⟩ := h.gone x y hm
  have := key_one hn ((goneL_sub L x).mem he) ((goneL_sub L x).mem hz) (by rw [hk, hzk])
  rw [this, hzp] at hp
  cases hp
theorem setP_mem {L : List Ent} {x : Int} {b : Bool} {e : Ent} (he : e ∈ L) (hk : e.key ≠ x) : e ∈ setP L x b := by
  unfold setP
  exact List.mem_map.2 ⟨e, he, by rw [if_neg hk]⟩
theorem PinsIn.off {L : List Ent} {ps : List Int} (h : PinsIn L ps) (x : Int) (b : Bool) : PinsIn (setP L x b) (outL ps x) := fun y hy => by
  obtain ⟨h1, h2⟩ := outL_mem hy
  obtain ⟨e, he, hk, hp⟩ := h y h1
  exact ⟨e, setP_mem he (by rw [hk]; exact h2), hk, hp⟩
theorem look_some {L : List Ent} {x : Int} (h : (look L x).isSome = true) : ∃ e ∈ L, e.key = x := by
  unfold look at h
  cases hf : L.find? fun e => e.key == x with
  | none => rw [hf] at h; cases h
  | some e => exact ⟨e, List.mem_of_find?_eq_some hf, by simpa using List.find?_some hf⟩
theorem PinsIn.on {L : List Ent} {ps : List Int} (h : PinsIn L ps) (x : Int) (hs : (look L x).isSome = true) : PinsIn (setP L x true) (outL ps x ++ [x]) := fun y hy => by
  rcases List.mem_append.1 hy with hy | hy
  · exact h.off x true y hy
  · obtain rfl := List.mem_singleton.1 hy
    obtain ⟨e, he, hk⟩ := look_some hs
    exact ⟨{ e with p := true }, by unfold setP; exact List.mem_map.2 ⟨e, he, by rw [if_pos hk]⟩, hk, rfl⟩
theorem setP_not {L : List Ent} {x : Int} {b : Bool} (hs : (look L x).isSome = false) : setP L x b = L := by
  refine setP_none (List.findIdx?_eq_none_iff.2 fun e he => ?_) b
  cases hb : e.key == x with
  | false => rfl
  | true =>
    unfold look at hs
    cases hf : L.find? fun e => e.key == x with
    | none => have := List.find?_eq_none.1 hf e he; rw [hb] at this; exact absurd rfl this
    | some z => rw [hf] at hs; cases hs
end Go.Proofs.Ytehdclfmkeemgaa
