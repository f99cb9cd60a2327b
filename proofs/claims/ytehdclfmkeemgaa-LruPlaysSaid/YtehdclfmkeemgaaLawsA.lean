/- LruNone and LruGot: the walks of the two laws, for every input. -/
import Derived.Test.YtehdclfmkeemgaaDeeds
namespace Go.Proofs.Ytehdclfmkeemgaa
open Go.RowKit
attribute [local irreducible] wpQuiet
attribute [local go_sem high] run_mxI run_mnI

set_option maxHeartbeats 800000 in
theorem none_walk (k n : Int) (s : ByteArray) (w : World) :
    Calls Try.prog 6 #[.agg #[.int .i64 k, .int .i64 n, .string s]] w fun e w' => e = .returned (.bool true) ∧ Below w.heap.size w w' := by
  go_enter Try.func6, Try.ntmps6
  go_wp2_with fail
  refine (nil_get _ _).mono ?_
  rintro e w1 ⟨rfl, rfl⟩
  go_wp2_with fail
  refine (nil_put _ _ _).mono ?_
  rintro e w1 ⟨rfl, rfl⟩
  go_wp2_with fail
  refine (nil_pin _ _ _).mono ?_
  rintro e w1 ⟨rfl, rfl⟩
  go_wp2_with fail
  refine (nil_drop _ _).mono ?_
  rintro e w1 ⟨rfl, rfl⟩
  go_wp2_with fail
  refine (nil_keys _).mono ?_
  rintro e w1 ⟨rfl, rfl⟩
  go_wp2_with fail
  refine (nil_bytes _).mono ?_
  rintro e w1 ⟨rfl, rfl⟩
  go_wp2_with fail
  refine (awake_any _).mono ?_
  rintro e w1 ⟨rfl, hb⟩
  have B1 := hid hb
  clear hb
  go_wp2_with fail
  go_ret
  exact ⟨rfl, ((Below.refl _ _).alloc (Nat.le_refl _) _).trans (B1.out.mono (by simp))⟩

/-! ### nothing is pinned: what is put is kept -/
theorem evict_fits {M n : Nat} (hn : n ≤ M) : ∀ (L : List Ent), (∀ e ∈ L, e.p = false) → total (evictL M n L.length L).1 + n ≤ M := by
  intro L
  induction hk : L.length generalizing L with
  | zero =>
    intro _
    obtain rfl := List.eq_nil_of_length_eq_zero hk
    simpa [evictL, total] using hn
  | succ k ih =>
    intro hp
    by_cases hr : total L + n ≤ M
    · rw [evictL_room hr]; exact hr
    · cases hl : looseI L with
      | none =>
        have h0 : 0 < L.length := by omega
        have := loose_none hl 0 L[0] (List.getElem?_eq_getElem h0)
        rw [hp _ (List.getElem_mem h0)] at this
        cases this
      | some i =>
        obtain ⟨e, he, _, _⟩ := loose_some hl
        have hil : i < L.length := (List.getElem?_eq_some_iff.1 he).1
        rw [← hk, evictL_step (by omega) hl he]
        have hk' : (L.eraseIdx i).length = k := by rw [List.length_eraseIdx_of_lt hil]; omega
        rw [hk']
        exact ih _ hk' fun z hz => hp z (List.mem_of_mem_eraseIdx hz)
theorem put_in {M : Nat} {L : List Ent} {v : ByteArray} (x : Int) (g : Nat) (hv : v.size ≤ M) (hp : ∀ e ∈ L, e.p = false) (hn : (keysL L).Nodup) :
    ∃ K : List Ent, (putL M L x v g).1 = K ++ [⟨x, v, false, g⟩] ∧ (∀ e ∈ K, e.key ≠ x) ∧ ∀ e ∈ K, e.p = false := by
  have hs := goneL_sub L x
  have hf := evict_fits hv (goneL L x) fun e he => hp e (hs.mem he)
  refine ⟨(evictL M v.size (goneL L x).length (goneL L x)).1, ?_, fun e he => goneL_not hn x e ((evictL_sub _ _ _ _).mem he), fun e he => hp e (hs.mem ((evictL_sub _ _ _ _).mem he))⟩
  unfold putL
  rw [if_neg (by omega), if_neg (by omega)]
theorem last_get {K : List Ent} {x : Int} {v : ByteArray} {b : Bool} {g : Nat} (hK : ∀ e ∈ K, e.key ≠ x) : getL (K ++ [⟨x, v, b, g⟩]) x = K ++ [⟨x, v, b, g⟩] ∧ getV (K ++ [⟨x, v, b, g⟩]) x = v ∧ (look (K ++ [⟨x, v, b, g⟩]) x).isSome = true := by
  have h0 : K.findIdx? (fun e => e.key == x) = none := List.findIdx?_eq_none_iff.2 fun e he => by simpa using hK e he
  have h1 : K.find? (fun e => e.key == x) = none := List.find?_eq_none.2 fun e he => by simpa using hK e he
  refine ⟨?_, ?_, ?_⟩
  · unfold getL
    rw [List.findIdx?_append, h0]
    simp [List.findIdx?_cons, List.eraseIdx_append_of_length_le]
  · unfold getV
    rw [List.find?_append, h1]
    simp
  · rw [look_snoc hK]
    simp
theorem put_out {M : Nat} {L : List Ent} {v : ByteArray} (x : Int) (g : Nat) (hv : M < v.size) (hp : ∀ e ∈ L, e.p = false) (hn : (keysL L).Nodup) :
    look (putL M L x v g).1 x = none ∧ ∀ e ∈ (putL M L x v g).1, e.p = false := by
  have e1 : (putL M L x v g).1 = goneL L x := by unfold putL; rw [if_pos hv]
  rw [e1]
  refine ⟨?_, fun e he => hp e ((goneL_sub L x).mem he)⟩
  unfold look
  rw [List.find?_eq_none.2 fun e he => by simpa using goneL_not hn x e he]
  rfl

set_option maxHeartbeats 2000000 in
theorem got_walk (m : Int) {A : Option Addr} {len cap : Nat} (w : World) (h : ∃ l : List Deed, l.length = len ∧ len ≤ maxLen ∧ DeedsAt w w.heap.size A l) :
    Calls Try.prog 5 #[.int .i64 m, .slice A len cap] w fun e w' => e = .returned (.bool true) ∧ Below w.heap.size w w' := by
  obtain ⟨l, rfl, hmax, hd⟩ := h
  unfold maxLen at hmax
  have HD := hid hd
  clear hd
  obtain ⟨M, hM, hM2⟩ := mn_nat m
  have HM := hid hM
  clear hM
  by_cases hfew : (decide (l.length ≤ 80) && l.all fun d => decide (d.text.size ≤ 70000)) = true
  · have hl : l.length ≤ 80 := by simp at hfew; exact hfew.1
    have HF := hid hfew
    clear hfew hmax
    go_enter Try.func5, Try.ntmps5
    go_wp2_with fail
    refine (few_any HD (by omega)).mono ?_
    rintro e w1 ⟨rfl, rfl⟩
    rw [HF.out]
    go_wp2_with fail
    refine (new_c HM.out).mono ?_
    rintro e w1 ⟨br, S1, rfl, h1, hb⟩
    have C1 := hid h1
    have B1 := hid hb
    clear h1 hb
    go_wp2_with fail
    go_loopw [6] (fun i wr => ∃ (k : Nat) (S : Nat → Prop) (L : List Ent), k ≤ l.length ∧ i = .int .i64 k ∧ Hid (CacheAt wr w.heap.size br M k S L ∧ (∀ e ∈ L, e.p = false) ∧ Below w.heap.size w wr)) (fun i _ => l.length - (intOf i).toNat)
    case atStart => exact ⟨0, S1, [], by omega, rfl, C1.out, by simp, B1.out⟩
    case round =>
      obtain ⟨k, S, L, hk, rfl, hR⟩ := hrel
      by_cases hkl : k < l.length
      · obtain ⟨ad, rfl, hb, hc⟩ := (HD.out.below hR.out.2.2).2 (by omega)
        obtain ⟨g0, g1, g2⟩ := hc k hkl
        obtain ⟨d, hd⟩ : ∃ d, d = l.getD k default := ⟨_, rfl⟩
        rw [← hd] at g0 g1 g2
        have hmem : d ∈ l := by rw [hd, List.getD_eq_getElem?_getD, List.getElem?_eq_getElem hkl]; exact List.getElem_mem hkl
        have hwf := HD.out.1 d hmem
        have hsz : d.text.size ≤ 70000 := by
          have := HF.out
          simp only [Bool.and_eq_true, List.all_eq_true, decide_eq_true_eq] at this
          exact this.2 d hmem
        clear hd hc hb hmem
        go_wp2_with fail
        have hbox := Blk.new wr 32 #[.int .i64 d.kind, .int .i64 d.n, .string d.text]
        have hC := hid (hR.out.1.below ((Below.refl _ _).alloc (Nat.le_refl _) (.cells #[.int .i64 d.kind, .int .i64 d.n, .string d.text] 32)))
        have hBB := hid (hR.out.2.2.alloc hR.out.2.2.size (.cells #[.int .i64 d.kind, .int .i64 d.n, .string d.text] 32))
        have hnS : ¬ S wr.heap.size := fun hs => by have := (hR.out.1.lt _ hs).2; omega
        obtain ⟨wb, hwb⟩ : ∃ wb, wb = wr.alloc (.cells #[.int .i64 d.kind, .int .i64 d.n, .string d.text] 32) := ⟨_, rfl⟩
        have hbs : wr.heap.size < wb.heap.size := by rw [hwb]; simp
        rw [← hwb] at hbox hC hBB ⊢
        clear hwb
        refine (put_c hC hwf hM2 (by omega) _ (by omega)).mono ?_
        rintro e w3 ⟨g, Ao, co, rfl, hg, _, hs⟩
        have hB3 := hid (hBB.out.trans (hs.below hC.out))
        obtain ⟨S3, h3, hS3, ho3⟩ := hs
        have hbox3 := hbox.only ho3 hnS
        have hn3 : ¬ S3 wr.heap.size := fun hs => by
          rcases hS3 _ hs with h1 | h1
          · exact hnS h1
          · omega
        have b1 : w3.cell? ⟨wr.heap.size, 1, none⟩ = some (.int .i64 d.n) := by rw [hbox3.cell]; rfl
        have b2 : w3.cell? ⟨wr.heap.size, 2, none⟩ = some (.string d.text) := by rw [hbox3.cell]; rfl
        have hLs := hR.out.1.lists
        clear hS3 ho3 hbox
        by_cases hfit : d.text.size ≤ M
        · obtain ⟨K, e1, hK, hp⟩ := put_in d.n g hfit hR.out.2.1 hLs.1
          rw [e1] at h3
          have C3 := hid h3
          obtain ⟨q1, q2, q3⟩ := last_get (v := d.text) (b := false) (g := g) hK
          have ht : decide ((d.text.size : Int) ≤ mnI (mxI m 0) 65536) = true := by rw [HM.out]; simpa using hfit
          have Q1 := hid q1
          have Q2 := hid q2
          have Q3 := hid q3
          have HK := hid hK
          have HP := hid hp
          clear h3 e1 q1 q2 q3 hK hp hLs
          go_wp2_with fail
          refine (get_c C3 hwf (by omega)).mono ?_
          rw [Q1.out, Q2.out, Q3.out]
          rintro e w4 ⟨rfl, hs⟩
          have hB4 := hid (hB3.out.trans (hs.below C3.out))
          obtain ⟨S4, h4, hS4, ho4⟩ := hs
          have hbox4 := hbox3.only ho4 hn3
          have C4 := hid h4
          clear h4 hS4 ho4 b1 b2
          go_wp2_with fail
          refine (keys_c C4 (by omega)).mono ?_
          rintro e w5 ⟨A5, c5, rfl, hi, hb5⟩
          have C5 := hid (C4.out.below hb5)
          have hB5 := hid (hB4.out.trans (hb5.mono hB4.out.size))
          have hbox5 := hbox4.below hb5 hbox4.lt
          have b1 : w5.cell? ⟨wr.heap.size, 1, none⟩ = some (.int .i64 d.n) := by rw [hbox5.cell]; rfl
          have b2 : w5.cell? ⟨wr.heap.size, 2, none⟩ = some (.string d.text) := by rw [hbox5.cell]; rfl
          have hkl2 : (keysL (K ++ [(⟨d.n, d.text, false, g⟩ : Ent)])).length = K.length + 1 := by simp [keysL]
          obtain ⟨a5, rfl, _, hc5⟩ := hi (by rw [hkl2]; omega)
          have b3 := hc5 K.length (by rw [hkl2]; omega)
          rw [show (keysL (K ++ [(⟨d.n, d.text, false, g⟩ : Ent)])).getD K.length 0 = d.n by simp [keysL, List.getD]] at b3
          have hlenK : (K ++ [(⟨d.n, d.text, false, g⟩ : Ent)]).length = K.length + 1 := by simp
          have hKb : K.length ≤ 1000 := by have := C5.out.lists.2.2.2; rw [hlenK] at this; omega
          rw [hlenK]
          have hsub : IntKind.i64.wrap (((K.length + 1 : Nat) : Int) - 1) = (K.length : Int) := by rw [IntKind.wrap_i64]; omega
          have hsub1 : IntKind.i64.wrap ((K.length : Int) + 1 - 1) = (K.length : Int) := by rw [IntKind.wrap_i64]; omega
          have hsub2 : IntKind.i64.wrap (K.length : Int) = (K.length : Int) := by rw [IntKind.wrap_i64]; omega
          have hx0 : (0 : Int) ≤ (K.length : Int) := by omega
          have hx1 : (K.length : Int) < (K.length : Int) + 1 := by omega
          clear hi hb5 hc5 hkl2 hlenK
          go_wp2_with fail
          go_quiet (fail)
          go_wp2_with fail
          go_roundw
          case rel => exact ⟨k + 1, S4, _, by omega, by go_num, hid ⟨C5.out.drewN nq, fun e he => by
            rcases List.mem_append.1 he with he | he
            · exact HP.out e he
            · obtain rfl := List.mem_singleton.1 he
              rfl, below_drewN hB5.out nq⟩⟩
          case measure => simp [intOf]; omega
        · obtain ⟨e1, hp⟩ := put_out (M := M) d.n g (show M < d.text.size by omega) hR.out.2.1 hLs.1
          have C3 := hid h3
          have ht : decide ((d.text.size : Int) ≤ mnI (mxI m 0) 65536) = false := by rw [HM.out]; simpa using hfit
          have HP := hid hp
          have E1 := hid e1
          clear h3 e1 hp hLs
          go_wp2_with fail
          refine (get_n C3 hwf E1.out).mono ?_
          rintro e w4 ⟨rfl, rfl⟩
          go_wp2_with fail
          go_roundw
          case rel => exact ⟨k + 1, S3, _, by omega, by go_num, hid ⟨C3.out, HP.out, hB3.out⟩⟩
          case measure => simp [intOf]; omega
      · obtain rfl : k = l.length := by omega
        go_wp2_with fail
        refine (awake_any _).mono ?_
        rintro e w6 ⟨rfl, hb⟩
        have B6 := hid hb
        clear hb
        go_wp2_with fail
        go_ret
        exact ⟨rfl, hR.out.2.2.trans (B6.out.mono hR.out.2.2.size)⟩
  · have hfew' : (decide (l.length ≤ 80) && l.all fun d => decide (d.text.size ≤ 70000)) = false := by simpa using hfew
    have HF := hid hfew'
    clear hfew hfew'
    go_enter Try.func5, Try.ntmps5
    go_wp2_with fail
    refine (few_any HD hmax).mono ?_
    rintro e w1 ⟨rfl, rfl⟩
    rw [HF.out]
    go_wp2_with fail
    refine (awake_any _).mono ?_
    rintro e w6 ⟨rfl, hb⟩
    have B6 := hid hb
    clear hb
    go_wp2_with fail
    go_ret
    exact ⟨rfl, B6.out⟩
end Go.Proofs.Ytehdclfmkeemgaa
