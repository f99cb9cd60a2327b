/- Server, Index, Parity, and whether two rows are the same. -/
import Derived.Test.YtdobilcfjpmakaaAll
namespace Go.Proofs.Ytdobilcfjpmakaa
open Go.RowKit
attribute [local irreducible] wpQuiet

theorem may_in {xs : List Int} {s : Int} (h : mayB xs s = true) : grpB xs = true ∧ ∃ st : Nat, s = st ∧ st < 4096 := by
  unfold mayB at h
  simp only [Bool.and_eq_true, decide_eq_true_eq] at h
  exact ⟨h.1, s.toNat, by omega, by omega⟩

set_option maxHeartbeats 1000000 in
theorem ints_any {A A' : Option Addr} {n c n' c' B B' : Nat} {xs ys : List Int} {w : World} (h : Hid (IntsAt w B A xs)) (hn : xs.length = n) (h' : Hid (IntsAt w B' A' ys)) (hn' : ys.length = n') (hl : n ≤ maxLen) :
    Calls Try.prog 14 #[.slice A n c, .slice A' n' c'] w fun e w' => e = .returned (.bool (decide (xs = ys))) ∧ ∃ m, w' = w.drewN m := by
  have hl' : n ≤ 9223372036854775807 := by unfold maxLen at hl; omega
  by_cases hne : n = n'
  · subst hne
    obtain ⟨r, hr⟩ : ∃ r, r = decide (xs = ys) := ⟨_, rfl⟩
    rw [← hr]
    have HR := hid hr
    clear hr
    go_enter Try.func14, Try.ntmps14
    go_wp2
    go_loopw [5] (fun i wr => ∃ k m : Nat, k ≤ n ∧ i = .int .i64 k ∧ Hid (∀ j, j < k → xs.getD j 0 = ys.getD j 0) ∧ wr = w.drewN m) (fun i _ => n - (intOf i).toNat)
    case atStart => exact ⟨0, 0, by omega, rfl, fun j hj => absurd hj (by omega), rfl⟩
    case round =>
      obtain ⟨k, m, hk, rfl, hs, rfl⟩ := hrel
      by_cases hkn : k < n
      · obtain ⟨ad, rfl, _, hcc⟩ := h.out (by omega)
        have hc1 := hcc k (by omega)
        obtain ⟨ad', rfl, _, hcc'⟩ := h'.out (by omega)
        have hc2 := hcc' k (by omega)
        obtain ⟨x, hx⟩ : ∃ x, x = xs.getD k 0 := ⟨_, rfl⟩
        obtain ⟨y, hy⟩ : ∃ y, y = ys.getD k 0 := ⟨_, rfl⟩
        rw [← hx] at hc1
        rw [← hy] at hc2
        have HX := hid hx
        have HY := hid hy
        clear hx hy hcc hcc'
        by_cases hxy : x = y
        · subst hxy
          go_wp2
          go_quiet (fail)
          go_wp2
          go_roundw
          case rel => exact ⟨k + 1, _, by omega, by go_num, hid fun j hj => by
            rcases Nat.lt_or_ge j k with h1 | h1
            · exact hs.out j h1
            · obtain rfl : j = k := by omega
              rw [← HX.out, ← HY.out], rfl⟩
          case measure => simp [intOf]; omega
        · go_wp2
          go_quiet (fail)
          go_wp2
          go_ret
          have : ¬ xs = ys := fun e => hxy (by rw [HX.out, HY.out, e])
          rw [HR.out]
          exact ⟨by simp [this], _, World.drewN_drewN _ _ _⟩
      · obtain rfl : k = n := by omega
        go_wp2
        go_ret
        have : xs = ys := by
          refine List.ext_getElem (by omega) fun i h1 h2 => ?_
          have := hs.out i (by omega)
          simpa [List.getD, h1, h2] using this
        rw [HR.out]
        exact ⟨by simp [this], _, rfl⟩
  · have hd : decide (xs = ys) = false := by
      rw [decide_eq_false_iff_not]
      intro e
      rw [e] at hn
      omega
    rw [hd]
    clear hd
    go_enter Try.func14, Try.ntmps14
    go_wp2
    go_ret
    exact ⟨rfl, 0, rfl⟩

def serverR (xs : List Int) (s i : Int) : Int × Int := if mayB xs s = true ∧ 0 ≤ i ∧ i < xs.length then ((rowR xs s.toNat).getD i.toNat 0, 0) else (0, 1)
def indexR (xs : List Int) (s x : Int) : Int × Int := if mayB xs s = true then (if 0 ≤ atI (rowR xs s.toNat) x then (atI (rowR xs s.toNat) x, 0) else (0, 7)) else (0, 1)

set_option maxHeartbeats 1000000 in
theorem server_any {A : Option Addr} {n c B : Nat} {xs : List Int} {s i : Int} {w : World} (h : Hid (IntsAt w B A xs)) (hB : B ≤ w.heap.size) (hn : xs.length = n) (hc : n ≤ c) (hl : c ≤ maxLen) :
    Calls Try.prog 10 #[.slice A n c, .int .i64 s, .int .i64 i] w fun e w' => e = .returned (.tuple #[.int .i64 (serverR xs s i).1, .int .i64 (serverR xs s i).2]) ∧ Below w.heap.size w w' := by
  by_cases hm : mayB xs s = true
  · obtain ⟨hg, st, rfl, hst⟩ := may_in hm
    obtain ⟨hn2, hn8⟩ := grp_bound hg
    rw [hn] at hn2 hn8
    have hall := hid (all_ok (w := w) h hB hn hc hl hg hst)
    by_cases hi0 : i < 0
    · rw [show serverR xs (st : Int) i = (0, 1) by unfold serverR; rw [if_neg (by omega)]]
      clear hm hg
      go_enter Try.func10, Try.ntmps10
      go_wp2_with fail
      refine hall.out.mono ?_
      rintro e w1 ⟨A1, rfl, _, hb⟩
      have HB := hid hb
      clear hb
      go_wp2_with fail
      go_ret2
      exact ⟨rfl, HB.out⟩
    · by_cases hi1 : (n : Int) ≤ i
      · rw [show serverR xs (st : Int) i = (0, 1) by unfold serverR; rw [if_neg (by omega)]]
        clear hm hg
        go_enter Try.func10, Try.ntmps10
        go_wp2_with fail
        refine hall.out.mono ?_
        rintro e w1 ⟨A1, rfl, _, hb⟩
        have HB := hid hb
        clear hb
        go_wp2_with fail
        go_ret2
        exact ⟨rfl, HB.out⟩
      · obtain ⟨j, rfl⟩ := Int.eq_ofNat_of_zero_le (show 0 ≤ i by omega)
        have hjn : j < n := by omega
        rw [show serverR xs (st : Int) (j : Int) = ((rowR xs st).getD j 0, 0) by unfold serverR; rw [if_pos ⟨hm, by omega, by omega⟩]; rfl]
        obtain ⟨y, hy⟩ : ∃ y, y = (rowR xs st).getD j 0 := ⟨_, rfl⟩
        rw [← hy]
        have HY := hid hy
        clear hm hg hy
        have HN := hid hn
        clear hn
        go_enter Try.func10, Try.ntmps10
        go_wp2_with fail
        refine hall.out.mono ?_
        rintro e w1 ⟨A1, rfl, hr, hb⟩
        obtain ⟨ad, rfl, _, hcc⟩ := hr (by rw [rowR_length, HN.out]; omega)
        have hc1 := hcc j (by rw [rowR_length, HN.out]; omega)
        rw [← HY.out] at hc1
        have HB := hid hb
        clear hb hcc hr
        go_wp2_with fail
        go_ret2
        exact ⟨rfl, HB.out⟩
  · have hm' : mayB xs s = false := by simpa using hm
    have hall := hid (all_bad (w := w) h hn hc hl hm')
    rw [show serverR xs s i = (0, 1) by unfold serverR; rw [if_neg (fun e => hm e.1)]]
    clear hm hm'
    go_enter Try.func10, Try.ntmps10
    go_wp2_with fail
    refine hall.out.mono ?_
    rintro e w1 ⟨rfl, rfl⟩
    go_wp2_with fail
    go_ret2
    exact ⟨rfl, Below.refl _ _⟩

set_option maxHeartbeats 1000000 in
theorem index_any {A : Option Addr} {n c B : Nat} {xs : List Int} {s x : Int} {w : World} (h : Hid (IntsAt w B A xs)) (hB : B ≤ w.heap.size) (hn : xs.length = n) (hc : n ≤ c) (hl : c ≤ maxLen) :
    Calls Try.prog 12 #[.slice A n c, .int .i64 s, .int .i64 x] w fun e w' => e = .returned (.tuple #[.int .i64 (indexR xs s x).1, .int .i64 (indexR xs s x).2]) ∧ Below w.heap.size w w' := by
  by_cases hm : mayB xs s = true
  · obtain ⟨hg, st, rfl, hst⟩ := may_in hm
    obtain ⟨hn2, hn8⟩ := grp_bound hg
    rw [hn] at hn2 hn8
    have hall := hid (all_ok (w := w) h hB hn hc hl hg hst)
    have hv : indexR xs (st : Int) x = if 0 ≤ atI (rowR xs st) x then (atI (rowR xs st) x, 0) else (0, 7) := by unfold indexR; rw [if_pos hm]; rfl
    rw [hv]
    have HN := hid hn
    have hmx : n ≤ maxLen := by omega
    clear hm hg hv hn
    obtain ⟨y, hy⟩ : ∃ y, y = atI (rowR xs st) x := ⟨_, rfl⟩
    rw [← hy]
    have HY := hid hy
    clear hy
    by_cases ha : 0 ≤ y
    · rw [if_pos ha]
      go_enter Try.func12, Try.ntmps12
      go_wp2_with fail
      refine hall.out.mono ?_
      rintro e w1 ⟨A1, rfl, hr, hb⟩
      have HRR := hid hr
      have HB := hid hb
      clear hb hr
      go_wp2_with fail
      refine (idx_any x HRR (by rw [rowR_length]; exact HN.out) hmx).mono ?_
      rintro e w' ⟨rfl, rfl⟩
      rw [← HY.out]
      go_wp2_with fail
      go_ret2
      exact ⟨rfl, HB.out⟩
    · rw [if_neg ha]
      go_enter Try.func12, Try.ntmps12
      go_wp2_with fail
      refine hall.out.mono ?_
      rintro e w1 ⟨A1, rfl, hr, hb⟩
      have HRR := hid hr
      have HB := hid hb
      clear hb hr
      go_wp2_with fail
      refine (idx_any x HRR (by rw [rowR_length]; exact HN.out) hmx).mono ?_
      rintro e w' ⟨rfl, rfl⟩
      rw [← HY.out]
      go_wp2_with fail
      go_ret2
      exact ⟨rfl, HB.out⟩
  · have hm' : mayB xs s = false := by simpa using hm
    have hall := hid (all_bad (w := w) h hn hc hl hm')
    rw [show indexR xs s x = (0, 1) by unfold indexR; rw [if_neg hm]]
    clear hm hm'
    go_enter Try.func12, Try.ntmps12
    go_wp2_with fail
    refine hall.out.mono ?_
    rintro e w1 ⟨rfl, rfl⟩
    go_wp2_with fail
    go_ret2
    exact ⟨rfl, Below.refl _ _⟩

set_option maxHeartbeats 1000000 in
theorem refindex_any {A : Option Addr} {n c B : Nat} {xs : List Int} {s x : Int} {w : World} (h : Hid (IntsAt w B A xs)) (hB : B ≤ w.heap.size) (hn : xs.length = n) (hc : n ≤ c) (hl : c ≤ maxLen) :
    Calls Try.prog 13 #[.slice A n c, .int .i64 s, .int .i64 x] w fun e w' => e = .returned (.tuple #[.int .i64 (indexR xs s x).1, .int .i64 (indexR xs s x).2]) ∧ Below w.heap.size w w' := by
  by_cases hm : mayB xs s = true
  · obtain ⟨hg, st, rfl, hst⟩ := may_in hm
    obtain ⟨hn2, hn8⟩ := grp_bound hg
    rw [hn] at hn2 hn8
    have hall := hid (refall_ok (w := w) h hB hn hc hl hg hst)
    have hv : indexR xs (st : Int) x = if 0 ≤ atI (rowR xs st) x then (atI (rowR xs st) x, 0) else (0, 7) := by unfold indexR; rw [if_pos hm]; rfl
    rw [hv]
    have HN := hid hn
    have hmx : n ≤ maxLen := by omega
    clear hm hg hv hn
    obtain ⟨y, hy⟩ : ∃ y, y = atI (rowR xs st) x := ⟨_, rfl⟩
    rw [← hy]
    have HY := hid hy
    clear hy
    by_cases ha : 0 ≤ y
    · rw [if_pos ha]
      go_enter Try.func13, Try.ntmps13
      go_wp2_with fail
      refine hall.out.mono ?_
      rintro e w1 ⟨A1, c1, rfl, hr, hb⟩
      have HRR := hid hr
      have HB := hid hb
      clear hb hr
      go_wp2_with fail
      refine (at_any x HRR (by rw [rowR_length]; exact HN.out) hmx).mono ?_
      rintro e w' ⟨rfl, rfl⟩
      rw [← HY.out]
      go_wp2_with fail
      go_ret2
      exact ⟨rfl, HB.out⟩
    · rw [if_neg ha]
      go_enter Try.func13, Try.ntmps13
      go_wp2_with fail
      refine hall.out.mono ?_
      rintro e w1 ⟨A1, c1, rfl, hr, hb⟩
      have HRR := hid hr
      have HB := hid hb
      clear hb hr
      go_wp2_with fail
      refine (at_any x HRR (by rw [rowR_length]; exact HN.out) hmx).mono ?_
      rintro e w' ⟨rfl, rfl⟩
      rw [← HY.out]
      go_wp2_with fail
      go_ret2
      exact ⟨rfl, HB.out⟩
  · have hm' : mayB xs s = false := by simpa using hm
    have hall := hid (refall_bad (w := w) h hn hc hl hm')
    rw [show indexR xs s x = (0, 1) by unfold indexR; rw [if_neg hm]]
    clear hm hm'
    go_enter Try.func13, Try.ntmps13
    go_wp2_with fail
    refine hall.out.mono ?_
    rintro e w1 ⟨rfl, m, rfl⟩
    go_wp2_with fail
    go_ret2
    exact ⟨rfl, below_drewN (Below.refl _ _) _⟩

set_option maxHeartbeats 1000000 in
theorem refserver_any {A : Option Addr} {n c B : Nat} {xs : List Int} {s i : Int} {w : World} (h : Hid (IntsAt w B A xs)) (hn : xs.length = n) (hc : n ≤ c) (hl : c ≤ maxLen) :
    Calls Try.prog 11 #[.slice A n c, .int .i64 s, .int .i64 i] w fun e w' => e = .returned (.tuple #[.int .i64 (serverR xs s i).1, .int .i64 (serverR xs s i).2]) ∧ Below w.heap.size w w' := by
  have hcall := may_any (w := w) (s := s) h hn hc hl
  by_cases hm : mayB xs s = true
  · obtain ⟨hg, st, rfl, hst⟩ := may_in hm
    obtain ⟨hn2, hn8⟩ := grp_bound hg
    rw [hn] at hn2 hn8
    rw [hm] at hcall
    have HC := hid hcall
    clear hcall
    by_cases hi0 : i < 0
    · rw [show serverR xs (st : Int) i = (0, 1) by unfold serverR; rw [if_neg (by omega)]]
      clear hm hg
      go_enter Try.func11, Try.ntmps11
      go_wp2_with fail
      refine HC.out.mono ?_
      rintro e w1 ⟨rfl, m, rfl⟩
      go_wp2_with fail
      go_ret2
      exact ⟨rfl, below_drewN (Below.refl _ _) _⟩
    · by_cases hi1 : (n : Int) ≤ i
      · rw [show serverR xs (st : Int) i = (0, 1) by unfold serverR; rw [if_neg (by omega)]]
        clear hm hg
        go_enter Try.func11, Try.ntmps11
        go_wp2_with fail
        refine HC.out.mono ?_
        rintro e w1 ⟨rfl, m, rfl⟩
        go_wp2_with fail
        go_ret2
        exact ⟨rfl, below_drewN (Below.refl _ _) _⟩
      · obtain ⟨j, rfl⟩ := Int.eq_ofNat_of_zero_le (show 0 ≤ i by omega)
        have hjn : j < n := by omega
        obtain ⟨t, ht⟩ : ∃ t, t = (j + st) % n := ⟨_, rfl⟩
        have htn : t < n := by rw [ht]; exact Nat.mod_lt _ (by omega)
        have hv : serverR xs (st : Int) (j : Int) = (xs.getD t 0, 0) := by
          unfold serverR; rw [if_pos ⟨hm, by omega, by omega⟩]
          show ((rowR xs st).getD j 0, (0 : Int)) = _
          rw [rowR_at _ _ _ (by omega), hn, ← ht]
        rw [hv]
        clear hm hg hv
        obtain ⟨ad, rfl, _, hcc⟩ := h.out (by omega)
        have hc1 := hcc t (by omega)
        have hs : IntKind.i64.wrap ((j : Int) + (st : Int)) = (j : Int) + (st : Int) := by rw [IntKind.wrap_i64]; omega
        have hmod : ((j : Int) + (st : Int)).tmod (n : Int) = (t : Int) := by
          rw [Int.tmod_eq_emod_of_nonneg (by omega), ht, Int.natCast_emod, Int.natCast_add]
        clear hcc ht hn
        go_enter Try.func11, Try.ntmps11
        go_wp2_with fail
        refine HC.out.mono ?_
        rintro e w1 ⟨rfl, m, rfl⟩
        go_wp2_with fail
        go_ret2
        exact ⟨rfl, below_drewN (Below.refl _ _) _⟩
  · rw [show mayB xs s = false by simpa using hm] at hcall
    have HC := hid hcall
    rw [show serverR xs s i = (0, 1) by unfold serverR; rw [if_neg (fun e => hm e.1)]]
    clear hm hcall
    go_enter Try.func11, Try.ntmps11
    go_wp2_with fail
    refine HC.out.mono ?_
    rintro e w1 ⟨rfl, m, rfl⟩
    go_wp2_with fail
    go_ret2
    exact ⟨rfl, below_drewN (Below.refl _ _) _⟩

end Go.Proofs.Ytdobilcfjpmakaa
