/- LayoutOne: of a stripe each server has just one fragment; the walk of this law. -/
import Derived.Test.YtdobilcfjpmakaaAwake
namespace Go.Proofs.Ytdobilcfjpmakaa
open Go.RowKit
attribute [local irreducible] wpQuiet

theorem apart_at {xs : List Int} (h : apartB xs = true) {j : Nat} (hj : j < xs.length) : 0 ≤ xs.getD j 0 ∧ xs.getD j 0 ≤ 63 ∧ ∀ i, i < j → xs.getD i 0 ≠ xs.getD j 0 := by
  have h1 := List.all_eq_true.1 h j (List.mem_range.2 hj)
  unfold okAt at h1
  simp only [Bool.and_eq_true, decide_eq_true_eq] at h1
  refine ⟨h1.1.1, h1.1.2, fun i hi e => ?_⟩
  have h2 := h1.2
  unfold atI at h2
  rw [if_pos] at h2
  · omega
  · rw [← e, List.mem_take_iff_getElem]
    exact ⟨i, by omega, by simp [List.getD, show i < xs.length by omega]⟩
theorem apart_ne {xs : List Int} (h : apartB xs = true) {i j : Nat} (hi : i < xs.length) (hj : j < xs.length) (hij : i ≠ j) : xs.getD i 0 ≠ xs.getD j 0 := by
  rcases Nat.lt_or_ge i j with h1 | h1
  · exact (apart_at h hj).2.2 i h1
  · exact ((apart_at h hi).2.2 j (by omega)).symm
theorem mod_ne {n i j st : Nat} (h2 : 2 ≤ n) (h8 : n ≤ 8) (hi : i < n) (hj : j < n) (hij : i ≠ j) : (i + st) % n ≠ (j + st) % n := by
  have hn : n = 2 ∨ n = 3 ∨ n = 4 ∨ n = 5 ∨ n = 6 ∨ n = 7 ∨ n = 8 := by omega
  rcases hn with rfl | rfl | rfl | rfl | rfl | rfl | rfl <;> omega
section
variable {xs : List Int} (h : grpB xs = true) (st : Nat)
include h
theorem grp_apart : apartB xs = true := by
  unfold grpB at h
  simp only [Bool.and_eq_true] at h
  exact h.2.2
theorem row_ne {i j : Nat} (hi : i < xs.length) (hj : j < xs.length) (hij : i ≠ j) : (rowR xs st).getD i 0 ≠ (rowR xs st).getD j 0 := by
  obtain ⟨h2, h8⟩ := grp_bound h
  rw [rowR_at _ _ _ hi, rowR_at _ _ _ hj]
  exact apart_ne (grp_apart h) (Nat.mod_lt _ (by omega)) (Nat.mod_lt _ (by omega)) (mod_ne h2 h8 hi hj hij)
theorem row_at {i : Nat} (hi : i < xs.length) : atI (rowR xs st) ((rowR xs st).getD i 0) = i :=
  atI_found (by rw [rowR_length]; exact hi) rfl fun j hj => row_ne h st (by omega) hi (by omega)
theorem row_apart : apartB (rowR xs st) = true := by
  obtain ⟨h2, h8⟩ := grp_bound h
  refine apart_yes fun i hi => ?_
  rw [rowR_length] at hi
  have h1 := apart_at (grp_apart h) (j := (i + st) % xs.length) (Nat.mod_lt _ (by omega))
  have h3 : atI ((rowR xs st).take i) ((rowR xs st).getD i 0) = -1 := atI_none fun j hj => by
    rw [List.length_take, rowR_length] at hj
    have : ((rowR xs st).take i).getD j 0 = (rowR xs st).getD j 0 := by
      simp only [List.getD, List.getElem?_take]
      rw [if_pos (by omega)]
    rw [this]
    exact row_ne h st (by omega) hi (by omega)
  unfold okAt
  rw [h3, rowR_at _ _ _ hi]
  simp only [Bool.and_eq_true, decide_eq_true_eq]
  exact ⟨⟨h1.1, h1.2.1⟩, by omega⟩
theorem row_in {i : Nat} (hi : i < xs.length) : 0 ≤ atI xs ((rowR xs st).getD i 0) := by
  obtain ⟨h2, h8⟩ := grp_bound h
  have hm : (i + st) % xs.length < xs.length := Nat.mod_lt _ (by omega)
  rw [rowR_at _ _ _ hi]
  unfold atI
  rw [if_pos]
  · omega
  · simp only [List.getD, List.getElem?_eq_getElem hm, Option.getD_some]
    exact List.getElem_mem hm
theorem server_row {i : Nat} (hst : st < 4096) (hi : i < xs.length) : serverR xs st i = ((rowR xs st).getD i 0, 0) := by
  unfold serverR
  rw [if_pos ⟨by unfold mayB; rw [h]; simp; omega, by omega, by omega⟩]
  rfl
theorem index_row {i : Nat} (hst : st < 4096) (hi : i < xs.length) : indexR xs st ((rowR xs st).getD i 0) = ((i : Int), 0) := by
  unfold indexR
  rw [if_pos (by unfold mayB; rw [h]; simp; omega), show ((st : Int)).toNat = st from rfl, row_at h st hi, if_pos (by omega)]
end

set_option maxRecDepth 100000 in
set_option maxHeartbeats 2000000 in
theorem one_ok {A : Option Addr} {n c st : Nat} {xs : List Int} (w : World) (hn : xs.length = n) (hc : n ≤ c) (hl : c ≤ maxLen) (H0 : Hid (IntsAt w w.heap.size A xs)) (hg : grpB xs = true) (hst : st < 4096) :
    Calls Try.prog 5 #[.slice A n c, .int .i64 st] w fun e w' => e = .returned (.bool true) ∧ Below w.heap.size w w' := by
  have hcall := refgroup_any (w := w) H0 hn hc hl
  obtain ⟨hn2, hn8⟩ := grp_bound hg
  rw [hn] at hn2 hn8
  rw [hg] at hcall
  have HC := hid hcall
  have q1 := fun W A c B h hB => all_ok (A := A) (n := n) (c := c) (B := B) (xs := xs) (st := st) (w := W) h hB hn
  have Q1 := hid (fun W A c B h hB hc hl => q1 W A c B h hB hc hl hg hst)
  have hap := row_apart hg st
  have HV := hid (fun i (hi : i < n) => server_row hg st hst (i := i) (by omega))
  have HI := hid (fun i (hi : i < n) => index_row hg st hst (i := i) (by omega))
  have HA := hid (fun i (hi : i < n) => row_in hg st (i := i) (by omega))
  have hylen : (rowR xs st).length = n := by rw [rowR_length, hn]
  obtain ⟨ys, hys⟩ : ∃ ys, ys = rowR xs st := ⟨_, rfl⟩
  rw [← hys] at Q1 hap HV HI HA hylen
  have HAP := hid hap
  have HYL := hid hylen
  have HN := hid hn
  clear hap hys hcall q1 hg hylen hn
  go_enter Try.func5, Try.ntmps5
  go_wp2_with fail
  refine HC.out.mono ?_
  rintro e w1 ⟨rfl, m1, rfl⟩
  have B1 := hid (below_drewN (Below.refl w.heap.size w) m1)
  go_wp2_with fail
  refine (Q1.out _ _ _ _ (hid (H0.out.drewN m1)) (Nat.le_refl _) hc hl).mono ?_
  rintro e w2 ⟨A2, rfl, hr, hb⟩
  have R2 := hid hr
  have B2 := hid (B1.out.trans (hb.mono B1.out.size))
  clear hr hb B1
  go_wp2_with fail
  refine (apart_any R2 HYL.out (Nat.le_refl _) (by omega)).mono ?_
  rintro e w3 ⟨rfl, m3, rfl⟩
  rw [HAP.out]
  have hnm : n ≤ maxLen := by omega
  go_wp2_with fail
  go_loopw [7] (fun i wr => ∃ k : Nat, k ≤ n ∧ i = .int .i64 k ∧ Hid (Below w2.heap.size w2 wr)) (fun i _ => n - (intOf i).toNat)
  case atStart => exact ⟨0, by omega, rfl, hid (below_drewN (Below.refl _ _) m3)⟩
  case round =>
    obtain ⟨k, hk, rfl, HB⟩ := hrel
    have BW := hid (B2.out.trans (HB.out.mono B2.out.size))
    have HX := hid (H0.out.below BW.out)
    by_cases hkn : k < n
    · have hv := HV.out k hkn
      have hi := HI.out k hkn
      have ha := HA.out k hkn
      have q3 := fun W A c B h hB => server_any (A := A) (n := n) (c := c) (B := B) (xs := xs) (s := st) (i := k) (w := W) h hB HN.out
      rw [hv] at q3
      obtain ⟨y, hy⟩ : ∃ y, y = ys.getD k 0 := ⟨_, rfl⟩
      rw [← hy] at q3 hi ha
      have q5 := fun W A c B h hB => index_any (A := A) (n := n) (c := c) (B := B) (xs := xs) (s := st) (x := y) (w := W) h hB HN.out
      rw [hi] at q5
      have Q3 := hid q3
      have Q5 := hid q5
      have HY := hid hy
      clear q3 q5 hv hi hy
      go_wp2_with fail
      refine (Q3.out _ _ _ _ HX BW.out.size hc hl).mono ?_
      rintro e w4 ⟨rfl, hb⟩
      have C4 := hid (HB.out.trans (hb.mono HB.out.size))
      have D4 := hid (BW.out.trans (hb.mono BW.out.size))
      have HX4 := hid (H0.out.below D4.out)
      obtain ⟨ad, rfl, _, hcc⟩ := (R2.out.below C4.out) (by have := HYL.out; omega)
      have hc1 := hcc k (by have := HYL.out; omega)
      rw [← HY.out] at hc1
      clear hb hcc
      go_wp2_with fail
      refine (Q5.out _ _ _ _ HX4 D4.out.size hc hl).mono ?_
      rintro e w5 ⟨rfl, hb⟩
      have C5 := hid (C4.out.trans (hb.mono C4.out.size))
      have D5 := hid (D4.out.trans (hb.mono D4.out.size))
      have HX5 := hid (H0.out.below D5.out)
      clear hc1
      obtain ⟨ad', had, _, hcc⟩ := (R2.out.below C5.out) (by have := HYL.out; omega)
      have hc1 := hcc k (by have := HYL.out; omega)
      rw [← HY.out, ← Option.some.inj had] at hc1
      obtain ⟨z, hz⟩ : ∃ z, z = atI xs y := ⟨_, rfl⟩
      rw [← hz] at ha
      have HZ := hid hz
      clear hb hcc had hz
      go_wp2_with fail
      refine (at_any y HX5 HN.out hnm).mono ?_
      rintro e w6 ⟨rfl, rfl⟩
      rw [← HZ.out]
      go_wp2_with fail
      go_roundw
      case rel => exact ⟨k + 1, by omega, by go_num, C5⟩
      case measure => simp [intOf]; omega
    · obtain rfl : k = n := by omega
      obtain ⟨j, rfl⟩ : ∃ j, k = j + 1 := ⟨k - 1, by omega⟩
      have hv := HV.out j (by omega)
      have q3 := fun W A c B h hB => parity_any (A := A) (n := j + 1) (c := c) (B := B) (xs := xs) (s := st) (w := W) h hB HN.out
      rw [show ((j + 1 : Nat) : Int) - 1 = (j : Int) by omega, hv] at q3
      obtain ⟨y, hy⟩ : ∃ y, y = ys.getD j 0 := ⟨_, rfl⟩
      rw [← hy] at q3
      have Q3 := hid q3
      have HY := hid hy
      clear q3 hv hy
      go_wp2_with fail
      refine (Q3.out _ _ _ _ HX BW.out.size hc hl).mono ?_
      rintro e w4 ⟨rfl, hb⟩
      have C4 := hid (HB.out.trans (hb.mono HB.out.size))
      have D4 := hid (BW.out.trans (hb.mono BW.out.size))
      obtain ⟨ad, rfl, _, hcc⟩ := (R2.out.below C4.out) (by have := HYL.out; omega)
      have hc1 := hcc j (by have := HYL.out; omega)
      rw [← HY.out] at hc1
      clear hb hcc
      go_wp2_with fail
      refine (awake_any _).mono ?_
      rintro e w8 ⟨rfl, hb⟩
      have B8 := hid (D4.out.trans (hb.mono D4.out.size))
      clear hb
      go_wp2_with fail
      go_ret
      exact ⟨rfl, B8.out⟩

set_option maxRecDepth 100000 in
set_option maxHeartbeats 1000000 in
theorem one_walk {A : Option Addr} {n c : Nat} (s : Int) (w : World) (hh : ∃ l : List Int, l.length = n ∧ n ≤ c ∧ c ≤ maxLen ∧ IntsAt w w.heap.size A l) :
    Calls Try.prog 5 #[.slice A n c, .int .i64 s] w fun e w' => e = .returned (.bool true) ∧ Below w.heap.size w w' := by
  obtain ⟨xs, hn, hc, hl, h0⟩ := hh
  have H0 := hid h0
  have hcall := refgroup_any (w := w) H0 hn hc hl
  clear h0
  by_cases hg : grpB xs = true
  · by_cases hs0 : s < 0
    · rw [hg] at hcall
      have HC := hid hcall
      clear hcall hg
      go_enter Try.func5, Try.ntmps5
      go_wp2_with fail
      refine HC.out.mono ?_
      rintro e w1 ⟨rfl, m1, rfl⟩
      have B1 := hid (below_drewN (Below.refl w.heap.size w) m1)
      go_wp2_with fail
      refine (awake_any _).mono ?_
      rintro e w8 ⟨rfl, hb⟩
      have B8 := hid (B1.out.trans (hb.mono B1.out.size))
      clear hb
      go_wp2_with fail
      go_ret
      exact ⟨rfl, B8.out⟩
    · by_cases hs1 : 4096 ≤ s
      · rw [hg] at hcall
        have HC := hid hcall
        clear hcall hg
        go_enter Try.func5, Try.ntmps5
        go_wp2_with fail
        refine HC.out.mono ?_
        rintro e w1 ⟨rfl, m1, rfl⟩
        have B1 := hid (below_drewN (Below.refl w.heap.size w) m1)
        go_wp2_with fail
        refine (awake_any _).mono ?_
        rintro e w8 ⟨rfl, hb⟩
        have B8 := hid (B1.out.trans (hb.mono B1.out.size))
        clear hb
        go_wp2_with fail
        go_ret
        exact ⟨rfl, B8.out⟩
      · obtain ⟨st, rfl⟩ := Int.eq_ofNat_of_zero_le (show 0 ≤ s by omega)
        exact one_ok w hn hc hl H0 hg (by omega)
  · rw [show grpB xs = false by simpa using hg] at hcall
    have HC := hid hcall
    clear hcall hg
    go_enter Try.func5, Try.ntmps5
    go_wp2_with fail
    refine HC.out.mono ?_
    rintro e w1 ⟨rfl, m1, rfl⟩
    have B1 := hid (below_drewN (Below.refl w.heap.size w) m1)
    go_wp2_with fail
    refine (awake_any _).mono ?_
    rintro e w8 ⟨rfl, hb⟩
    have B8 := hid (B1.out.trans (hb.mono B1.out.size))
    clear hb
    go_wp2_with fail
    go_ret
    exact ⟨rfl, B8.out⟩

end Go.Proofs.Ytdobilcfjpmakaa
