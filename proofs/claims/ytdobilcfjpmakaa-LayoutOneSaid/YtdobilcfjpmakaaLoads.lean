/- How many parities stand where: the program's count and the document's; both rows in one word. -/
import Derived.Test.YtdobilcfjpmakaaPlaces
namespace Go.Proofs.Ytdobilcfjpmakaa
open Go.RowKit
attribute [local irreducible] wpQuiet
attribute [local go_sem high] run_mxI run_mnI

def loadsN (n : Nat) : Nat → List Int
  | 0 => List.replicate n 0
  | k + 1 => (loadsN n k).set ((n - 1 + k) % n) ((loadsN n k).getD ((n - 1 + k) % n) 0 + 1)
theorem loadsN_length (n k : Nat) : (loadsN n k).length = n := by
  induction k with
  | zero => simp [loadsN]
  | succ k ih => rw [loadsN, List.length_set, ih]
theorem getD_set (l : List Int) (t j : Nat) (v : Int) (h : t < l.length) : (l.set t v).getD j 0 = if t = j then v else l.getD j 0 := by
  simp only [List.getD, List.getElem?_set]
  split
  · rename_i e
    subst e
    first | rfl | (rw [if_pos h]; rfl)
  · rfl
theorem loadsN_bound (n k j : Nat) (hn : 0 < n) : 0 ≤ (loadsN n k).getD j 0 ∧ (loadsN n k).getD j 0 ≤ k := by
  induction k generalizing j with
  | zero =>
    simp only [loadsN, List.getD, List.getElem?_replicate]
    split <;> simp
  | succ k ih =>
    rw [loadsN, getD_set _ _ _ _ (by rw [loadsN_length]; exact Nat.mod_lt _ hn)]
    have h1 := ih j
    have h2 := ih ((n - 1 + k) % n)
    split <;> omega
def loadsR (xs : List Int) (s : Int) : List Int := if grpB xs = true then loadsN xs.length (mnI (mxI s 0) 4096).toNat else []

theorem nums_set (l : List Int) (t : Nat) (v : Int) : (nums l).toArray.setIfInBounds t (.int .i64 v) = (nums (l.set t v)).toArray := by
  simp [nums, List.map_set]
theorem nums_cell {w : World} {g : Nat} {l : List Int} (h : Blk w g 3 (nums l).toArray) {t : Nat} (ht : t < l.length) : w.cell? ⟨g, t, none⟩ = some (.int .i64 (l.getD t 0)) := by
  rw [h.cell]
  simp [nums, List.getD, ht]
theorem Blk.ints {w : World} {g : Nat} {l : List Int} (h : Blk w g 3 (nums l).toArray) : IntsAt w w.heap.size (some ⟨g, 0, none⟩) l := fun _ =>
  ⟨_, rfl, h.lt, fun j hj => by rw [add_plain]; exact nums_cell h hj⟩
theorem made_nums (n : Nat) : madeCells #[Value.int .i64 0] n = (nums (loadsN n 0)).toArray := by
  apply Array.ext
  · simp [madeCells, nums, loadsN]
  · intro i h1 h2
    simp [madeCells, nums, loadsN, Nat.mod_one]

theorem mn_nat (s : Int) : ∃ K : Nat, mnI (mxI s 0) 4096 = (K : Int) ∧ K ≤ 4096 := by
  refine ⟨(mnI (mxI s 0) 4096).toNat, ?_, ?_⟩ <;> unfold mnI mxI <;> split <;> split <;> omega

set_option maxHeartbeats 1000000 in
theorem loads_any {A : Option Addr} {n c B : Nat} {xs : List Int} {s : Int} {w : World} (h : Hid (IntsAt w B A xs)) (hn : xs.length = n) (hc : n ≤ c) (hl : c ≤ maxLen) :
    Calls Try.prog 15 #[.slice A n c, .int .i64 s] w fun e w' => ∃ A' c', e = .returned (.slice A' (loadsR xs s).length c') ∧ IntsAt w' w'.heap.size A' (loadsR xs s) ∧ Below w.heap.size w w' := by
  have hcall := group_any (w := w) h hn hc hl
  by_cases hg : grpB xs = true
  · obtain ⟨hn2, hn8⟩ := grp_bound hg
    rw [hn] at hn2 hn8
    obtain ⟨K, hK, hK4⟩ := mn_nat s
    rw [show loadsR xs s = loadsN n K by unfold loadsR; rw [if_pos hg, hK, hn]; rfl, loadsN_length]
    rw [hg] at hcall
    have HC := hid hcall
    have hmk : ∀ W : World, (Instr.makeSlice 22 (.int .i64 (n : Int)) (.int .i64 (n : Int))).run Try.prog W = .ok (.slice (some ⟨W.heap.size, 0, none⟩) n n) (W.alloc (.cells (madeCells #[.int .i64 0] n) 3)) := by
      intro W
      exact run_make_row' 22 3 (.int .i64 0) 8 Try.underlying22 info3 rfl .i64 .i64 n (by omega) (by omega) W
    clear hg hcall hn
    go_enter Try.func15, Try.ntmps15
    go_wp2_with fail
    refine HC.out.mono ?_
    rintro e w' ⟨rfl, rfl⟩
    go_wp2_with fail
    go_loopw [16] (fun i wr => ∃ k : Nat, k ≤ K ∧ i = .int .i64 k ∧ Blk wr w.heap.size 3 (nums (loadsN n k)).toArray ∧ Below w.heap.size w wr) (fun i _ => K - (intOf i).toNat)
    case atStart => exact ⟨0, by omega, rfl, by rw [← made_nums]; exact Blk.new w 3 _, (Below.refl _ _).alloc (Nat.le_refl _) _⟩
    case round =>
      obtain ⟨k, hk, rfl, hm, hb⟩ := hrel
      have HM := hid hm
      have HB := hid hb
      clear hm hb
      by_cases hkn : k < K
      · obtain ⟨t, ht⟩ : ∃ t, t = (n - 1 + k) % n := ⟨_, rfl⟩
        have htn : t < n := by rw [ht]; exact Nat.mod_lt _ (by omega)
        have hc1 := nums_cell HM.out (t := t) (by rw [loadsN_length]; exact htn)
        have hf := HM.out.frozen t
        have hset := HM.out.set_ t (.int .i64 ((loadsN n k).getD t 0 + 1))
        rw [nums_set] at hset
        have hnx : (loadsN n k).set t ((loadsN n k).getD t 0 + 1) = loadsN n (k + 1) := by rw [loadsN, ht]
        rw [hnx] at hset
        have hbd := loadsN_bound n k t (by omega)
        obtain ⟨y, hy⟩ : ∃ y, y = (loadsN n k).getD t 0 := ⟨_, rfl⟩
        rw [← hy] at hc1 hset hbd
        have hw : IntKind.i64.wrap (y + 1) = y + 1 := by rw [IntKind.wrap_i64]; omega
        have hsub : IntKind.i64.wrap ((n : Int) - 1) = (n : Int) - 1 := by rw [IntKind.wrap_i64]; omega
        have HS := hid hset
        have hcall := fun W => turned_any (A := A) (n := n) (c := c) (a := k) (b := n - 1) (w := W) (by omega) hn8 (by omega) (by omega)
        rw [← ht, show ((n - 1 : Nat) : Int) = (n : Int) - 1 by omega] at hcall
        have HT := hid hcall
        clear hcall hy ht hset hnx hbd
        go_wp2_with fail
        refine (HT.out _).mono ?_
        rintro e w' ⟨rfl, rfl⟩
        go_wp2_with fail
        go_roundw
        case rel => exact ⟨k + 1, by omega, by go_num, HS.out, HB.out.setCell (Nat.le_refl _) _⟩
        case measure => simp [intOf]; omega
      · obtain rfl : k = K := by omega
        go_wp2
        go_ret
        exact ⟨_, _, rfl, HM.out.ints, HB.out⟩
  · rw [show loadsR xs s = [] by unfold loadsR; rw [if_neg hg]]
    rw [show grpB xs = false by simpa using hg] at hcall
    have HC := hid hcall
    clear hcall hg
    go_enter Try.func15, Try.ntmps15
    go_wp2_with fail
    refine HC.out.mono ?_
    rintro e w' ⟨rfl, rfl⟩
    go_wp2_with fail
    go_ret
    exact ⟨_, _, rfl, fun hx => absurd hx (by simp), Below.refl _ _⟩

set_option maxHeartbeats 1000000 in
theorem refloads_any {A : Option Addr} {n c B : Nat} {xs : List Int} {s : Int} {w : World} (h : Hid (IntsAt w B A xs)) (hn : xs.length = n) (hc : n ≤ c) (hl : c ≤ maxLen) :
    Calls Try.prog 16 #[.slice A n c, .int .i64 s] w fun e w' => ∃ A' c', e = .returned (.slice A' (loadsR xs s).length c') ∧ IntsAt w' w'.heap.size A' (loadsR xs s) ∧ Below w.heap.size w w' := by
  have hcall := refgroup_any (w := w) h hn hc hl
  by_cases hg : grpB xs = true
  · obtain ⟨hn2, hn8⟩ := grp_bound hg
    rw [hn] at hn2 hn8
    obtain ⟨K, hK, hK4⟩ := mn_nat s
    rw [show loadsR xs s = loadsN n K by unfold loadsR; rw [if_pos hg, hK, hn]; rfl, loadsN_length]
    rw [hg] at hcall
    have HC := hid hcall
    have hmk : ∀ W : World, (Instr.makeSlice 22 (.int .i64 (n : Int)) (.int .i64 (n : Int))).run Try.prog W = .ok (.slice (some ⟨W.heap.size, 0, none⟩) n n) (W.alloc (.cells (madeCells #[.int .i64 0] n) 3)) := by
      intro W
      exact run_make_row' 22 3 (.int .i64 0) 8 Try.underlying22 info3 rfl .i64 .i64 n (by omega) (by omega) W
    clear hg hcall hn
    go_enter Try.func16, Try.ntmps16
    go_wp2_with fail
    refine HC.out.mono ?_
    rintro e w' ⟨rfl, m, rfl⟩
    go_wp2_with fail
    go_loopw [6] (fun i wr => ∃ k : Nat, k ≤ K ∧ i = .int .i64 k ∧ Blk wr w.heap.size 3 (nums (loadsN n k)).toArray ∧ Below w.heap.size w wr) (fun i _ => K - (intOf i).toNat)
    case atStart => exact ⟨0, by omega, rfl, by rw [← made_nums]; exact Blk.new (w.drewN m) 3 _, (below_drewN (Below.refl _ w) m).alloc (Nat.le_refl _) _⟩
    case round =>
      obtain ⟨k, hk, rfl, hm, hb⟩ := hrel
      have HM := hid hm
      have HB := hid hb
      clear hm hb
      by_cases hkn : k < K
      · obtain ⟨t, ht⟩ : ∃ t, t = (n - 1 + k) % n := ⟨_, rfl⟩
        have htn : t < n := by rw [ht]; exact Nat.mod_lt _ (by omega)
        have hc1 := nums_cell HM.out (t := t) (by rw [loadsN_length]; exact htn)
        have hf := HM.out.frozen t
        have hset := HM.out.set_ t (.int .i64 ((loadsN n k).getD t 0 + 1))
        rw [nums_set] at hset
        have hnx : (loadsN n k).set t ((loadsN n k).getD t 0 + 1) = loadsN n (k + 1) := by rw [loadsN, ht]
        rw [hnx] at hset
        have hbd := loadsN_bound n k t (by omega)
        obtain ⟨y, hy⟩ : ∃ y, y = (loadsN n k).getD t 0 := ⟨_, rfl⟩
        rw [← hy] at hc1 hset hbd
        have hw : IntKind.i64.wrap (y + 1) = y + 1 := by rw [IntKind.wrap_i64]; omega
        have hsub : IntKind.i64.wrap ((n : Int) - 1) = (n : Int) - 1 := by rw [IntKind.wrap_i64]; omega
        have hadd : IntKind.i64.wrap ((n : Int) - 1 + (k : Int)) = (n : Int) - 1 + (k : Int) := by rw [IntKind.wrap_i64]; omega
        have hmod : ((n : Int) - 1 + (k : Int)).tmod (n : Int) = (t : Int) := by
          rw [Int.tmod_eq_emod_of_nonneg (by omega), ht, Int.natCast_emod, Int.natCast_add]
          congr 2
          omega
        have HS := hid hset
        clear hy ht hset hnx hbd
        go_wp2
        go_roundw
        case rel => exact ⟨k + 1, by omega, by go_num, HS.out, HB.out.setCell (Nat.le_refl _) _⟩
        case measure => simp [intOf]; omega
      · obtain rfl : k = K := by omega
        go_wp2
        go_ret
        exact ⟨_, _, rfl, HM.out.ints, HB.out⟩
  · rw [show loadsR xs s = [] by unfold loadsR; rw [if_neg hg]]
    rw [show grpB xs = false by simpa using hg] at hcall
    have HC := hid hcall
    clear hcall hg
    go_enter Try.func16, Try.ntmps16
    go_wp2_with fail
    refine HC.out.mono ?_
    rintro e w' ⟨rfl, m, rfl⟩
    go_wp2_with fail
    go_ret
    exact ⟨_, _, rfl, fun hx => absurd hx (by simp), below_drewN (Below.refl _ _) _⟩

def allR (xs : List Int) (s : Int) : List Int × Int := if mayB xs s = true then (rowR xs s.toNat, 0) else ([], 1)
theorem all_any {A : Option Addr} {n c B : Nat} {xs : List Int} {s : Int} {w : World} (h : Hid (IntsAt w B A xs)) (hB : B ≤ w.heap.size) (hn : xs.length = n) (hc : n ≤ c) (hl : c ≤ maxLen) :
    Calls Try.prog 8 #[.slice A n c, .int .i64 s] w fun e w' => ∃ A' c', e = .returned (.tuple #[.slice A' (allR xs s).1.length c', .int .i64 (allR xs s).2]) ∧ IntsAt w' w'.heap.size A' (allR xs s).1 ∧ Below w.heap.size w w' := by
  by_cases hm : mayB xs s = true
  · obtain ⟨hg, st, rfl, hst⟩ := may_in hm
    rw [show allR xs (st : Int) = (rowR xs st, 0) by unfold allR; rw [if_pos hm]; rfl]
    refine (all_ok h hB hn hc hl hg hst).mono ?_
    rintro e w' ⟨A', rfl, h1, h2⟩
    exact ⟨A', n, by rw [rowR_length, hn], h1, h2⟩
  · rw [show allR xs s = ([], 1) by unfold allR; rw [if_neg hm]]
    refine (all_bad h hn hc hl (by simpa using hm)).mono ?_
    rintro e w' ⟨rfl, rfl⟩
    exact ⟨none, 0, rfl, fun hx => absurd hx (by simp), Below.refl _ _⟩
theorem refall_any {A : Option Addr} {n c B : Nat} {xs : List Int} {s : Int} {w : World} (h : Hid (IntsAt w B A xs)) (hB : B ≤ w.heap.size) (hn : xs.length = n) (hc : n ≤ c) (hl : c ≤ maxLen) :
    Calls Try.prog 9 #[.slice A n c, .int .i64 s] w fun e w' => ∃ A' c', e = .returned (.tuple #[.slice A' (allR xs s).1.length c', .int .i64 (allR xs s).2]) ∧ IntsAt w' w'.heap.size A' (allR xs s).1 ∧ Below w.heap.size w w' := by
  by_cases hm : mayB xs s = true
  · obtain ⟨hg, st, rfl, hst⟩ := may_in hm
    rw [show allR xs (st : Int) = (rowR xs st, 0) by unfold allR; rw [if_pos hm]; rfl]
    refine (refall_ok h hB hn hc hl hg hst).mono ?_
    rintro e w' ⟨A', c', rfl, h1, h2⟩
    exact ⟨A', c', by rw [rowR_length, hn], h1, h2⟩
  · rw [show allR xs s = ([], 1) by unfold allR; rw [if_neg hm]]
    refine (refall_bad h hn hc hl (by simpa using hm)).mono ?_
    rintro e w' ⟨rfl, m, rfl⟩
    exact ⟨none, 0, rfl, fun hx => absurd hx (by simp), below_drewN (Below.refl _ _) _⟩
theorem parity_any {A : Option Addr} {n c B : Nat} {xs : List Int} {s : Int} {w : World} (h : Hid (IntsAt w B A xs)) (hB : B ≤ w.heap.size) (hn : xs.length = n) (hc : n ≤ c) (hl : c ≤ maxLen) :
    Calls Try.prog 20 #[.slice A n c, .int .i64 s] w fun e w' => e = .returned (.tuple #[.int .i64 (serverR xs s ((n : Int) - 1)).1, .int .i64 (serverR xs s ((n : Int) - 1)).2]) ∧ Below w.heap.size w w' := by
  have hx : n ≤ maxLen := by omega
  have hsub : IntKind.i64.wrap ((n : Int) - 1) = (n : Int) - 1 := by rw [IntKind.wrap_i64]; unfold maxLen at hx; omega
  have HC := hid (server_any (w := w) (s := s) (i := (n : Int) - 1) h hB hn hc hl)
  go_enter Try.func20, Try.ntmps20
  go_wp2_with fail
  refine HC.out.mono ?_
  rintro e w' ⟨rfl, hb⟩
  have HB := hid hb
  clear hb
  go_wp2_with fail
  go_ret2
  exact ⟨rfl, HB.out⟩

end Go.Proofs.Ytdobilcfjpmakaa
