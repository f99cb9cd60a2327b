/- The manager: move. The manager: swap. -/
import Derived.Test.YtopbojifllnckaaGreatDoorG33
namespace Go.Proofs.YtopbojifllnckaaGreatDoor
open Go.RowKit
attribute [local irreducible] wpQuiet
section
variable {B : Nat} {T : Nat → Nat} {w w' : World} {gm p1 p2 p3 p4 p5 p6 : Nat} {L L' : List Str} {ep ep' : Int} {N : Nat} {f f' : Int → Int}
theorem below4 {z : Nat} (h : Below B w w') (hz : B ≤ z) (x0 x1 x2 x3 : Value) : Below B w ((((w'.setCell ⟨z, 0, none⟩ x0).setCell ⟨z, 1, none⟩ x1).setCell ⟨z, 2, none⟩ x2).setCell ⟨z, 3, none⟩ x3) :=
  (((h.setCell (p := ⟨z, 0, none⟩) hz x0).setCell (p := ⟨z, 1, none⟩) hz x1).setCell (p := ⟨z, 2, none⟩) hz x2).setCell (p := ⟨z, 3, none⟩) hz x3
set_option maxRecDepth 100000 in
set_option maxHeartbeats 1600000 in
theorem move_any (h : Mgr B T w gm p1 p2 p3 p4 p5 p6 L ep N f) (cl sq kd a b c d e : Int) (hN : N ≤ 100000) :
    Calls Tryz.prog 96 #[.pointer (some ⟨gm, 0, none⟩), .agg #[.int .i64 cl, .int .i64 sq, .int .i64 kd, .int .i64 a, .int .i64 b, .int .i64 c, .int .i64 d, .int .i64 e]] w (DEnd B T w gm p1 p2 p3 p4 p5 p6 N f fun L' _ _ _ => L' = L) := by
  obtain ⟨W, hW⟩ : ∃ W, W = w.alloc (.cells #[.int .i64 cl, .int .i64 sq, .int .i64 kd, .int .i64 a, .int .i64 b, .int .i64 c, .int .i64 d, .int .i64 e] 30) := ⟨_, rfl⟩
  have hb : Below w.heap.size w W := by rw [hW]; exact (Below.refl _ _).alloc (Nat.le_refl _) _
  have hBx : Blk W w.heap.size 30 #[.int .i64 cl, .int .i64 sq, .int .i64 kd, .int .i64 a, .int .i64 b, .int .i64 c, .int .i64 d, .int .i64 e] := by rw [hW]; exact Blk.new w 30 _
  have hm := h.below hb
  have hT0 : T w.heap.size = 0 := h.fits.zero (Nat.le_refl _)
  obtain ⟨gone, hg⟩ := hm.blk
  have b5 : W.cell? ⟨w.heap.size, 5, none⟩ = some (.int .i64 c) := (hBx.cell 5).trans rfl
  have hgl := hg.lt
  have hbl := hBx.lt
  have g1 := hm.cell 1 _ (by decide) rfl
  have hcall : Hid (∀ W2, Below W.heap.size W W2 → Calls Tryz.prog 44 #[.pointer (some ⟨p2, 0, none⟩), .int .i64 c] W2 fun e0 w' => ∃ (i st ow se ln : Int) (A : Option Addr) (n c' : Nat) (t : Bool), e0 = .returned (.tuple #[.agg #[.int .i64 i, .int .i64 st, .int .i64 ow, .int .i64 se, .int .i64 ln, .slice A n c'], .bool t]) ∧ gm < w'.heap.size ∧ w.heap.size < w'.heap.size ∧ (w'.cell? ⟨gm, 1, none⟩ = some (.pointer (some ⟨p2, 0, none⟩)) ∧ w'.cell? ⟨w.heap.size, 5, none⟩ = some (.int .i64 c)) ∧ Hid (Told L c i st ow se ln t ∧ Below W.heap.size W w' ∧ ∀ k t cs, Blk W2 k t cs → Blk w' k t cs)) := by
    show ∀ W2, _
    intro W2 hb2
    have hm2 := hm.below hb2
    refine (sGet_any hm2.smp c).mono ?_
    rintro e0 w' ⟨i, st, ow, se, ln, A, n, c', xs, t, he, ht, hbb, _⟩
    have hB3 := hBx.below (hb2.trans (hbb.mono hb2.size)) hBx.lt
    have m1 := hm2.below hbb
    exact ⟨i, st, ow, se, ln, A, n, c', t, he, (by obtain ⟨_, hq⟩ := m1.blk; exact hq.lt), hB3.lt, ⟨m1.cell 1 _ (by decide) rfl, (hB3.cell 5).trans rfl⟩, ht, hb2.trans (hbb.mono hb2.size), fun k t cs hB => hB.below hbb hB.lt⟩
  have hne1 : gm ≠ W.heap.size := Nat.ne_of_lt hgl
  have hne2 : w.heap.size ≠ W.heap.size := Nat.ne_of_lt hbl
  have hTW : T W.heap.size = 0 := hm.fits.zero (Nat.le_refl _)
  have hW0 : Hid (Below W.heap.size W W.drew) := (Below.refl _ _).drew
  have hW1 : Hid (Below W.heap.size W (W.alloc (.cells #[.int .i64 0, .int .i64 0, .int .i64 0, .int .i64 0, .int .i64 0, .slice none 0 0] 37)).drew) := ((Below.refl _ _).alloc (Nat.le_refl _) _).drew
  have HM := hid (And.intro hm (And.intro hBx hb))
  clear hm hg hBx hb h
  go_enter Tryz.func96, Tryz.ntmps96
  go_upto_region 1 with (fail)
  rw [← hW]
  clear hW
  go_cut [6, 7] (fun s6 s7 wx => ∃ (z : Nat) (i st ow se ln : Int) (A : Option Addr) (n c' : Nat) (t : Bool), s6 = .pointer (some ⟨z, 0, none⟩) ∧ s7 = .bool t ∧ Hid (W.heap.size ≤ z ∧ Blk wx z 37 #[.int .i64 i, .int .i64 st, .int .i64 ow, .int .i64 se, .int .i64 ln, .slice A n c'] ∧ Told L c i st ow se ln t ∧ Below W.heap.size W wx))
  case first =>
    go_region_held3 (fun w' => w'.cell? ⟨gm, 1, none⟩ = some (.pointer (some ⟨p2, 0, none⟩)) ∧ w'.cell? ⟨w.heap.size, 5, none⟩ = some (.int .i64 c)) (first | (with_reducible exact hS) | (with_reducible exact ⟨cell6 hne1 _ _ _ _ _ _ hS.1, cell6 hne2 _ _ _ _ _ _ hS.2⟩) | (with_reducible exact ⟨cellAl hgl' _ hS.1, cellAl hbl' _ hS.2⟩) | (with_reducible exact ⟨cellAl hgl _ g1, cellAl hbl _ b5⟩) | go_keep) ((go_at_call 44; first
      | (refine (hcall.out _ hW0.out).mono ?_; rintro e0 w' ⟨i, st, ow, se, ln, A, n, c', t, rfl, hgl', hbl', hS, hx⟩)
      | (refine (hcall.out _ hW1.out).mono ?_; rintro e0 w' ⟨i, st, ow, se, ln, A, n, c', t, rfl, hgl', hbl', hS, hx⟩; have hZZ := hx; have hZ := hx.out.2.2 W.heap.size 37 _ (Blk.new W 37 #[.int .i64 0, .int .i64 0, .int .i64 0, .int .i64 0, .int .i64 0, .slice none 0 0]); have z0 : w'.cell? ⟨W.heap.size, 0, none⟩ = some (.int .i64 0) := (hZ.cell 0).trans rfl; have z1 : w'.cell? ⟨W.heap.size, 1, none⟩ = some (.int .i64 0) := (hZ.cell 1).trans rfl; have z2 : w'.cell? ⟨W.heap.size, 2, none⟩ = some (.int .i64 0) := (hZ.cell 2).trans rfl; have z3 : w'.cell? ⟨W.heap.size, 3, none⟩ = some (.int .i64 0) := (hZ.cell 3).trans rfl; have z4 : w'.cell? ⟨W.heap.size, 4, none⟩ = some (.int .i64 0) := (hZ.cell 4).trans rfl; have z5 : w'.cell? ⟨W.heap.size, 5, none⟩ = some (.slice none 0 0) := (hZ.cell 5).trans rfl; have u0 := hZ.frozen 0; have u1 := hZ.frozen 1; have u2 := hZ.frozen 2; have u3 := hZ.frozen 3; have u4 := hZ.frozen 4; have u5 := hZ.frozen 5)))
    · obtain ⟨ht, hb2, _⟩ := hx.out
      have hbb0 : Below W.heap.size W (w'.alloc (.cells #[.int .i64 i, .int .i64 st, .int .i64 ow, .int .i64 se, .int .i64 ln, .slice A n c'] 37)) := hb2.alloc hb2.size _
      have HB := hid (And.intro hb2 hbb0)
      clear hbb0 hcall hS hb2
      go_wp2_with fail
      go_meet
      exact ⟨_, i, st, ow, se, ln, A, n, c', t, rfl, rfl, ⟨HB.out.1.size, Blk.new w' 37 _, ht, HB.out.2⟩⟩
    · obtain ⟨ht, hb2, m4⟩ := hx.out
      have hZ5 := hid (((((((m4 W.heap.size 37 _ (Blk.new W 37 #[.int .i64 0, .int .i64 0, .int .i64 0, .int .i64 0, .int .i64 0, .slice none 0 0])).set_ 0 (.int .i64 i)).set_ 1 (.int .i64 st)).set_ 2 (.int .i64 ow)).set_ 3 (.int .i64 se)).set_ 4 (.int .i64 ln)).set_ 5 (.slice A n c'))
      have hbb0 := hid (below6 hb2 (Nat.le_refl _) (.int .i64 i) (.int .i64 st) (.int .i64 ow) (.int .i64 se) (.int .i64 ln) (.slice A n c'))
      clear hcall hS hb2 m4
      go_wp2_with fail
      go_meet
      exact ⟨_, i, st, ow, se, ln, A, n, c', t, rfl, rfl, ⟨Nat.le_refl _, hZ5.out, ht, hbb0.out⟩⟩
  case rest =>
    obtain ⟨z, i, st, ow, se, ln, A, n, c', t, rfl, rfl, HX⟩ := hcut
    obtain ⟨hz, hZ, _, hbel⟩ := HX.out
    obtain ⟨hm, hBx, hb⟩ := HM.out
    have m := hm.below hbel
    have hg0 := Goes.below (T := T) (hb.trans (hbel.mono hb.size))
    have hB := hBx.below hbel hBx.lt
    have HM2 := hid (And.intro m (And.intro hg0 hB))
    have hT0' : Hid (T w.heap.size = 0) := hT0
    have q2 := m.cell 2 _ (by decide) rfl
    have y3 : wc.cell? ⟨w.heap.size, 3, none⟩ = some (.int .i64 a) := (hB.cell 3).trans rfl
    have y6 : wc.cell? ⟨w.heap.size, 6, none⟩ = some (.int .i64 d) := (hB.cell 6).trans rfl
    have y7 : wc.cell? ⟨w.heap.size, 7, none⟩ = some (.int .i64 e) := (hB.cell 7).trans rfl
    have x1 : wc.cell? ⟨z, 1, none⟩ = some (.int .i64 st) := (hZ.cell 1).trans rfl
    have x4 : wc.cell? ⟨z, 4, none⟩ = some (.int .i64 ln) := (hZ.cell 4).trans rfl
    have hgl' : gm < wc.heap.size := by obtain ⟨_, hq⟩ := m.blk; exact hq.lt
    have hbl' := hB.lt
    clear hz hZ hbel hm hBx hb m hB hg0
    clear g1 b5 hW0 hW1 hcall HX HM hT0 hTW hne1 hne2 hgl hbl
    obtain ⟨w1, hw1⟩ : ∃ w1, w1 = wc := ⟨_, rfl⟩
    subst hw1
    go_upto_region 3 with (fail)
    go_cut [8, 26] (fun s8 s26 wx => s8 = .bool (st == 2) ∧ ∃ q : Bool, s26 = .bool q ∧ wx = w1)
    case first =>
      by_cases c1 : d < 0
      · have d1 : decide (d < 0) = true := by simp [c1]
        go_wp2_with fail
        go_meet
        exact ⟨rfl, _, rfl, rfl⟩
      · have d1 : decide (d < 0) = false := by simp; omega
        by_cases c2 : e < 0
        · have d2 : decide (e < 0) = true := by simp [c2]
          go_wp2_with fail
          go_meet
          exact ⟨rfl, _, rfl, rfl⟩
        · have d2 : decide (e < 0) = false := by simp; omega
          by_cases c3 : st = 2
          · have d3 : (st == 2) = true := by simp [c3]
            by_cases c4 : ln < d
            · have d4 : decide (ln < d) = true := by simp [c4]
              go_wp2_with fail
              go_meet
              exact ⟨by simp [c3], _, rfl, rfl⟩
            · have d4 : decide (ln < d) = false := by simp; omega
              go_wp2_with fail
              go_meet
              exact ⟨by simp [c3], _, rfl, rfl⟩
          · have d3 : (st == 2) = false := by simp [c3]
            go_wp2_with fail
            go_meet
            exact ⟨by simp [c3], _, rfl, rfl⟩
    case rest =>
      obtain ⟨rfl, q, rfl, hw⟩ := hcut
      subst hw
      cases q with
      | true =>
        go_wp2_with fail
        go_ret2
        exact ⟨none, 0, 0, [], 2, T, L, ep, rfl, rfl, holds_nil _ _, (fun x hx => by cases hx), by omega, by omega, HM2.out.1, HM2.out.2.1, rfl⟩
      | false =>
        by_cases c3 : st = 2
        · have d3 : (st == 2) = true := by simp [c3]
          rw [d3]
          clear y6 y7 x1 x4 c3
          obtain ⟨w1, hw1⟩ : ∃ w1, w1 = wc := ⟨_, rfl⟩
          subst hw1
          have hcI : Hid (∀ W2, Below w1.heap.size w1 W2 → Calls Tryz.prog 162 #[.pointer (some ⟨p3, 0, none⟩), .int .i64 a] W2 fun e0 w' => ∃ (x0 x1 x2 x3 : Int) (t2 : Bool), e0 = .returned (.tuple #[.agg #[.int .i64 x0, .int .i64 x1, .int .i64 x2, .int .i64 x3], .bool t2]) ∧ gm < w'.heap.size ∧ w.heap.size < w'.heap.size ∧ (w'.cell? ⟨gm, 2, none⟩ = some (.pointer (some ⟨p3, 0, none⟩)) ∧ w'.cell? ⟨w.heap.size, 3, none⟩ = some (.int .i64 a)) ∧ Hid (Below w1.heap.size w1 w' ∧ ∀ k t cs, Blk W2 k t cs → Blk w' k t cs)) := by
            show ∀ W2, _
            intro W2 hb2
            have hm2 := HM2.out.1.below hb2
            refine (iGet_any hm2.imp a).mono ?_
            rintro e0 w' ⟨⟨x0, x1, x2, x3, t2, rfl⟩, hbb⟩
            have hB3 := HM2.out.2.2.below (hb2.trans (hbb.mono hb2.size)) HM2.out.2.2.lt
            have m1 := hm2.below hbb
            exact ⟨x0, x1, x2, x3, t2, rfl, (by obtain ⟨_, hq⟩ := m1.blk; exact hq.lt), hB3.lt, ⟨m1.cell 2 _ (by decide) rfl, (hB3.cell 3).trans rfl⟩, hb2.trans (hbb.mono hb2.size), fun k t cs hB => hB.below hbb hB.lt⟩
          have hne1 : gm ≠ w1.heap.size := Nat.ne_of_lt hgl'
          have hne2 : w.heap.size ≠ w1.heap.size := Nat.ne_of_lt hbl'
          have hW0 : Hid (Below w1.heap.size w1 w1.drew) := (Below.refl _ _).drew
          have hW1 : Hid (Below w1.heap.size w1 (w1.alloc (.cells #[.int .i64 0, .int .i64 0, .int .i64 0, .int .i64 0] 158)).drew) := ((Below.refl _ _).alloc (Nat.le_refl _) _).drew
          go_upto_region 7 with (fail)
          go_cut [9, 10] (fun s9 s10 wx => ∃ (y x0 x1 x2 x3 : Int) (z : Nat) (t2 : Bool), s9 = .pointer (some ⟨z, 0, none⟩) ∧ s10 = .bool t2 ∧ Hid (w1.heap.size ≤ z ∧ Blk wx z 158 #[.int .i64 x0, .int .i64 x1, .int .i64 x2, .int .i64 x3] ∧ Below w1.heap.size w1 wx))
          case first =>
            go_region_held3 (fun w' => w'.cell? ⟨gm, 2, none⟩ = some (.pointer (some ⟨p3, 0, none⟩)) ∧ w'.cell? ⟨w.heap.size, 3, none⟩ = some (.int .i64 a)) (first | (with_reducible exact hS) | (with_reducible exact ⟨cell4 hne1 _ _ _ _ hS.1, cell4 hne2 _ _ _ _ hS.2⟩) | (with_reducible exact ⟨cellAl hgl2 _ hS.1, cellAl hbl2 _ hS.2⟩) | (with_reducible exact ⟨cellAl hgl' _ q2, cellAl hbl' _ y3⟩) | go_keep) ((go_at_call 162; first
              | (refine (hcI.out _ hW0.out).mono ?_; rintro e0 w' ⟨x0, x1, x2, x3, t2, rfl, hgl2, hbl2, hS, hx⟩)
              | (refine (hcI.out _ hW1.out).mono ?_; rintro e0 w' ⟨x0, x1, x2, x3, t2, rfl, hgl2, hbl2, hS, hx⟩; have hZZ := hx; have hZ := hx.out.2 w1.heap.size 158 _ (Blk.new w1 158 #[.int .i64 0, .int .i64 0, .int .i64 0, .int .i64 0]); have z0 : w'.cell? ⟨w1.heap.size, 0, none⟩ = some (.int .i64 0) := (hZ.cell 0).trans rfl; have z1 : w'.cell? ⟨w1.heap.size, 1, none⟩ = some (.int .i64 0) := (hZ.cell 1).trans rfl; have z2 : w'.cell? ⟨w1.heap.size, 2, none⟩ = some (.int .i64 0) := (hZ.cell 2).trans rfl; have z3 : w'.cell? ⟨w1.heap.size, 3, none⟩ = some (.int .i64 0) := (hZ.cell 3).trans rfl; have u0 := hZ.frozen 0; have u1 := hZ.frozen 1; have u2 := hZ.frozen 2; have u3 := hZ.frozen 3)))
            · have hb2 := hx.out.1
              have hbb0 : Below w1.heap.size w1 (w'.alloc (.cells #[.int .i64 x0, .int .i64 x1, .int .i64 x2, .int .i64 x3] 158)) := hb2.alloc hb2.size _
              have HB := hid (And.intro hb2.size hbb0)
              clear hbb0 hcI hS hb2
              go_wp2_with fail
              go_meet
              exact ⟨0, x0, x1, x2, x3, _, t2, rfl, rfl, ⟨HB.out.1, Blk.new w' 158 _, HB.out.2⟩⟩
            · obtain ⟨hb2, m4⟩ := hx.out
              have hZ5 := hid (((((m4 w1.heap.size 158 _ (Blk.new w1 158 #[.int .i64 0, .int .i64 0, .int .i64 0, .int .i64 0])).set_ 0 (.int .i64 x0)).set_ 1 (.int .i64 x1)).set_ 2 (.int .i64 x2)).set_ 3 (.int .i64 x3))
              have hbb0 := hid (below4 hb2 (Nat.le_refl _) (.int .i64 x0) (.int .i64 x1) (.int .i64 x2) (.int .i64 x3))
              clear hcI hS hb2 m4
              go_wp2_with fail
              go_meet
              exact ⟨0, x0, x1, x2, x3, _, t2, rfl, rfl, ⟨Nat.le_refl _, hZ5.out, hbb0.out⟩⟩
          case rest =>
            obtain ⟨_, x0, x1, x2, x3, z, t2, rfl, rfl, HX⟩ := hcut
            obtain ⟨hz, hZ, hbel⟩ := HX.out
            obtain ⟨hm, hg0, hB0⟩ := HM2.out
            have m := hm.below hbel
            have hg1 := hg0.trans (Goes.below hbel)
            have hB := hB0.below hbel hB0.lt
            have hTz : T z = 0 := hm.fits.zero hz
            clear q2 y3 hgl' hbl'
            have q2 := m.cell 2 _ (by decide) rfl
            have y3 : wc.cell? ⟨w.heap.size, 3, none⟩ = some (.int .i64 a) := (hB.cell 3).trans rfl
            have y4 : wc.cell? ⟨w.heap.size, 4, none⟩ = some (.int .i64 b) := (hB.cell 4).trans rfl
            have y5 : wc.cell? ⟨w.heap.size, 5, none⟩ = some (.int .i64 c) := (hB.cell 5).trans rfl
            have y6 : wc.cell? ⟨w.heap.size, 6, none⟩ = some (.int .i64 d) := (hB.cell 6).trans rfl
            have y7 : wc.cell? ⟨w.heap.size, 7, none⟩ = some (.int .i64 e) := (hB.cell 7).trans rfl
            have hgl' : gm < wc.heap.size := by obtain ⟨_, hq⟩ := m.blk; exact hq.lt
            have hcM : Hid (∀ W2, W2 = wc.drew → Calls Tryz.prog 163 #[.pointer (some ⟨p3, 0, none⟩), .int .i64 a, .int .i64 b, .agg #[.int .i64 c, .int .i64 d, .int .i64 e, .int .i64 0]] W2 fun e0 w' => ∃ (v : Int) (r : Nat), e0 = .returned (.tuple #[.int .i64 v, .int .i64 r]) ∧ (w'.cell? ⟨gm, 2, none⟩ = some (.pointer (some ⟨p3, 0, none⟩)) ∧ w'.cell? ⟨w.heap.size, 3, none⟩ = some (.int .i64 a) ∧ w'.cell? ⟨w.heap.size, 4, none⟩ = some (.int .i64 b) ∧ w'.cell? ⟨w.heap.size, 5, none⟩ = some (.int .i64 c) ∧ w'.cell? ⟨w.heap.size, 6, none⟩ = some (.int .i64 d) ∧ w'.cell? ⟨w.heap.size, 7, none⟩ = some (.int .i64 e)) ∧ I64 v ∧ r < 17 ∧ ∃ T', Mgr B T' w' gm p1 p2 p3 p4 p5 p6 L ep N f ∧ Goes T w T' w' ∧ Blk w' z 158 #[.int .i64 x0, .int .i64 x1, .int .i64 x2, .int .i64 x3]) := by
              show ∀ W2, _
              intro W2 hW2
              have hb2 : Below wc.heap.size wc W2 := by rw [hW2]; exact (Below.refl _ _).drew
              have hm2 := m.below hb2
              refine (iMove_any hm2.imp a b c d e 0).mono ?_
              rintro e0 w' ⟨⟨v, r, h1, h2, he⟩, h3, h4⟩
              obtain ⟨m1, m2⟩ := hm2.imp_ (h3.mono fun _ h => .inl h) h4
              have hB3 := (hB.below hb2 hB.lt).only h4 (by show ¬ T w.heap.size = 3; rw [hT0'.out]; decide)
              exact ⟨v, r, he, ⟨m1.cell 2 _ (by decide) rfl, (hB3.cell 3).trans rfl, (hB3.cell 4).trans rfl, (hB3.cell 5).trans rfl, (hB3.cell 6).trans rfl, (hB3.cell 7).trans rfl⟩, h1, h2, _, m1, (hg1.trans (Goes.below hb2)).trans m2, (hZ.below hb2 hZ.lt).only h4 (by show ¬ T z = 3; rw [hTz]; decide)⟩
            clear hz hZ hbel hm hg0 hB0 m hg1 hB hTz HX HM2
            go_upto_region 8 with (fail)
            go_region_held3 (fun w' => w'.cell? ⟨gm, 2, none⟩ = some (.pointer (some ⟨p3, 0, none⟩)) ∧ w'.cell? ⟨w.heap.size, 3, none⟩ = some (.int .i64 a) ∧ w'.cell? ⟨w.heap.size, 4, none⟩ = some (.int .i64 b) ∧ w'.cell? ⟨w.heap.size, 5, none⟩ = some (.int .i64 c) ∧ w'.cell? ⟨w.heap.size, 6, none⟩ = some (.int .i64 d) ∧ w'.cell? ⟨w.heap.size, 7, none⟩ = some (.int .i64 e)) (first | (with_reducible exact hS) | (with_reducible exact ⟨q2, y3, y4, y5, y6, y7⟩) | go_keep) ((go_at_call 163; refine (hcM.out _ (by rfl)).mono ?_; rintro e0 w' ⟨v, r, rfl, hS, hv, hr, T', hx, hy, hz⟩))
            clear hS
            have HX1 := hid (And.intro hx (And.intro hy hv))
            have q3' : w'.cell? ⟨gm, 3, none⟩ = some (.pointer (some ⟨p4, 0, none⟩)) := hx.cell 3 _ (by decide) rfl
            have r0 : w'.cell? ⟨z, 0, none⟩ = some (.int .i64 x0) := (hz.cell 0).trans rfl
            have r2 : w'.cell? ⟨z, 2, none⟩ = some (.int .i64 x2) := (hz.cell 2).trans rfl
            have hgl2 : gm < w'.heap.size := by obtain ⟨_, hq⟩ := hx.blk; exact hq.lt
            clear hx hy hz hv q2 y3 y4 y5 y6 y7 hgl' hcM
            by_cases h0 : r = 0
            · subst h0
              cases t2 with
              | true =>
                have hcD : Hid (∀ W2, W2 = w'.drewN 1 → Calls Tryz.prog 164 #[.pointer (some ⟨p4, 0, none⟩), .int .i64 x0, .int .i64 x2] W2 fun e0 w2 => RInt e0 ∧ ∃ T2, Mgr B T2 w2 gm p1 p2 p3 p4 p5 p6 L ep N f ∧ Goes T w T2 w2) := by
                  show ∀ W2, _
                  intro W2 hW2
                  have hb2 : Below w'.heap.size w' W2 := by rw [hW2]; exact below_drewN (Below.refl _ _) 1
                  have hm2 := HX1.out.1.below hb2
                  refine (uDead_any hm2.usg (by omega) x0 x2).mono ?_
                  rintro e0 w2 ⟨he, h1, h2⟩
                  obtain ⟨m1, m2⟩ := hm2.usg_ h1 h2
                  exact ⟨he, _, m1, (HX1.out.2.1.trans (Goes.below hb2)).trans m2⟩
                go_upto_region 10 with (fail)
                go_still_tail 8, (by kernel_rfl)
                change wpList _ _ _ _ _ (w'.drewN 1)
                go_wp2_with fail
                refine (hcD.out _ rfl).mono ?_
                rintro e0 w2 ⟨⟨n2, rfl⟩, T2, hx2, hy2⟩
                have HX2 := hid (And.intro hx2 hy2)
                clear hx2 hy2 q3' r0 r2
                go_wp2_with fail
                go_ret2
                have hbb := (Below.refl w2.heap.size w2).alloc (Nat.le_refl _) (.cells #[.int .i64 v] 3)
                exact ⟨_, 1, 1, [v], 0, T2, L, ep, rfl, rfl, holds_new w2 [v] 3 _ rfl, one64 HX1.out.2.2, by omega, by omega, HX2.out.1.below hbb, HX2.out.2.trans (Goes.below hbb), rfl⟩
              | false =>
                go_wp2_with fail
                go_ret2
                have hbb := (Below.refl w'.heap.size w').alloc (Nat.le_refl _) (.cells #[.int .i64 v] 3)
                exact ⟨_, 1, 1, [v], 0, T', L, ep, rfl, rfl, holds_new w' [v] 3 _ rfl, one64 HX1.out.2.2, by omega, by omega, HX1.out.1.below hbb, HX1.out.2.1.trans (Goes.below hbb), rfl⟩
            · have d0 : ((r : Int) == 0) = false := by simp; omega
              have d1 : (r == 0) = false := by simp; omega
              go_wp2_with fail
              go_ret2
              have hbb := (Below.refl w'.heap.size w').alloc (Nat.le_refl _) (.cells #[.int .i64 v] 3)
              exact ⟨_, 1, 1, [v], r, T', L, ep, rfl, rfl, holds_new w' [v] 3 _ rfl, one64 HX1.out.2.2, by omega, by omega, HX1.out.1.below hbb, HX1.out.2.1.trans (Goes.below hbb), rfl⟩
        · have d3 : (st == 2) = false := by simp [c3]
          go_wp2_with fail
          go_ret2
          exact ⟨none, 0, 0, [], 7, T, L, ep, rfl, rfl, holds_nil _ _, (fun x hx => by cases hx), by omega, by omega, HM2.out.1, HM2.out.2.1, rfl⟩
end
end Go.Proofs.YtopbojifllnckaaGreatDoor
namespace Go.Proofs.YtopbojifllnckaaGreatDoor
open Go.RowKit
attribute [local irreducible] wpQuiet
section
variable {B : Nat} {T : Nat → Nat} {w w' : World} {gm p1 p2 p3 p4 p5 p6 : Nat} {L L' : List Str} {ep ep' : Int} {N : Nat} {f f' : Int → Int}
/-- Numbers that lie in no block of the manager. -/
def RowJ (T : Nat → Nat) (w : World) (A : Option Addr) (J : List Int) : Prop := 0 < J.length → ∃ ad, A = some ad ∧ ad.block < w.heap.size ∧ T ad.block = 0 ∧ ∀ j u, (nums J)[j]? = some u → w.cell? (ad.add j) = some u
theorem RowJ.goes {T' : Nat → Nat} {A : Option Addr} {J : List Int} (h : RowJ T w A J) (g : Goes T w T' w') : RowJ T' w' A J := fun hn => by
  obtain ⟨ad, e, hb, hz, hc⟩ := h hn
  have hk := g.only.block ad.block hb (by simp [hz])
  exact ⟨ad, e, Nat.lt_of_lt_of_le hb g.only.size, g.free _ hb hz, fun j u hu => (World.cell?_of_block (by rw [block_add]; exact hk)).trans (hc j u hu)⟩
theorem RowJ.own {A : Option Addr} {c n base : Nat} {J : List Int} (h : w.ownsRow base 3 1 (.slice A n c) n (nums J)) (hT : ∀ k, base ≤ k → T k = 0) : RowJ T w A J := fun hn => by
  obtain ⟨h1, _, h3⟩ := own_holdsS h
  obtain ⟨ad, e, hb, hc⟩ := h1 (by rw [nums_length]; exact hn)
  exact ⟨ad, e, hb, hT _ (h3 ad e), hc⟩
/-- Where swap's loop stands. -/
def SwR (B : Nat) (T : Nat → Nat) (w : World) (gm p1 p2 p3 p4 p5 p6 : Nat) (L : List Str) (ep : Int) (N : Nat) (f : Int → Int) (A : Option Addr) (J : List Int) (wr : World) : Prop :=
  ∃ T', Mgr B T' wr gm p1 p2 p3 p4 p5 p6 L ep N f ∧ Goes T w T' wr ∧ RowJ T' wr A J
set_option maxRecDepth 100000 in
set_option maxHeartbeats 1600000 in
theorem swap_any (h : Mgr B T w gm p1 p2 p3 p4 p5 p6 L ep N f) (cl sq kd a b c d e : Int) (hN : N ≤ 100000) :
    Calls Tryz.prog 98 #[.pointer (some ⟨gm, 0, none⟩), .agg #[.int .i64 cl, .int .i64 sq, .int .i64 kd, .int .i64 a, .int .i64 b, .int .i64 c, .int .i64 d, .int .i64 e]] w (DEnd B T w gm p1 p2 p3 p4 p5 p6 N f fun L' _ _ _ => L' = L) := by
  obtain ⟨W, hW⟩ : ∃ W, W = w.alloc (.cells #[.int .i64 cl, .int .i64 sq, .int .i64 kd, .int .i64 a, .int .i64 b, .int .i64 c, .int .i64 d, .int .i64 e] 30) := ⟨_, rfl⟩
  have hb : Below w.heap.size w W := by rw [hW]; exact (Below.refl _ _).alloc (Nat.le_refl _) _
  have hBx : Blk W w.heap.size 30 #[.int .i64 cl, .int .i64 sq, .int .i64 kd, .int .i64 a, .int .i64 b, .int .i64 c, .int .i64 d, .int .i64 e] := by rw [hW]; exact Blk.new w 30 _
  have hm := h.below hb
  have hT0 : T w.heap.size = 0 := h.fits.zero (Nat.le_refl _)
  obtain ⟨gone, hg⟩ := hm.blk
  have b3 : W.cell? ⟨w.heap.size, 3, none⟩ = some (.int .i64 a) := (hBx.cell 3).trans rfl
  have hgl := hg.lt
  have hbl := hBx.lt
  have g0 := hm.cell 0 _ (by decide) rfl
  have hcW : Hid (∀ W2, W2 = W.drew → Calls Tryz.prog 166 #[.pointer (some ⟨p1, 0, none⟩), .int .i64 a] W2 fun e0 w' => ∃ (r : Nat) (x : Int), e0 = .returned (.tuple #[.int .i64 x, .int .i64 r]) ∧ (w'.cell? ⟨gm, 0, none⟩ = some (.pointer (some ⟨p1, 0, none⟩)) ∧ w'.cell? ⟨w.heap.size, 3, none⟩ = some (.int .i64 a)) ∧ r < 17 ∧ I64 x ∧ ∃ T' ep', Mgr B T' w' gm p1 p2 p3 p4 p5 p6 L ep' N f ∧ Goes T w T' w') := by
    show ∀ W2, _
    intro W2 hW2
    have hb2 : Below W.heap.size W W2 := by rw [hW2]; exact (Below.refl _ _).drew
    have hm2 := hm.below hb2
    refine (gSwap_any hm2.grp a).mono ?_
    rintro e0 w' ⟨r, x, he, hr, hx, ⟨ep', h1⟩, h2, h3⟩
    obtain ⟨m1, m2⟩ := hm2.grp_ (h1.mono fun _ h => .inl h) h2
    have hB3 := (hBx.below hb2 hBx.lt).only h2 (by show ¬ T w.heap.size = 1; rw [hT0]; decide)
    exact ⟨r, x, he, ⟨m1.cell 0 _ (by decide) rfl, (hB3.cell 3).trans rfl⟩, hr, ⟨by have := hx.1; omega, by have := hx.2; omega⟩, _, ep', m1, (Goes.below (hb.trans (hb2.mono hb.size))).trans m2⟩
  clear hm hg hBx hb h hT0
  go_enter Tryz.func98, Tryz.ntmps98
  go_upto_region 1 with (fail)
  rw [← hW]
  clear hW
  go_region_held3 (fun w' => w'.cell? ⟨gm, 0, none⟩ = some (.pointer (some ⟨p1, 0, none⟩)) ∧ w'.cell? ⟨w.heap.size, 3, none⟩ = some (.int .i64 a)) (first | (with_reducible exact hS) | (with_reducible exact ⟨g0, b3⟩) | go_keep) ((go_at_call 166; refine (hcW.out _ (by rfl)).mono ?_; rintro e0 w' ⟨r, x, rfl, hS, hr, hx, T', ep', hm, hg⟩))
  clear hS hcW g0 b3 hgl hbl
  by_cases h0 : r = 0
  · subst h0
    obtain ⟨gn, hq⟩ := hm.blk
    have q1 : w'.cell? ⟨gm, 1, none⟩ = some (.pointer (some ⟨p2, 0, none⟩)) := (hq.cell 1).trans rfl
    have q6 : w'.cell? ⟨gm, 6, none⟩ = some (.int .i64 gn) := (hq.cell 6).trans rfl
    have hgl' : gm < w'.heap.size := hq.lt
    obtain ⟨w2, hw2⟩ : ∃ w2, w2 = w' := ⟨_, rfl⟩
    subst hw2
    have hcO : Hid (∀ W2, W2 = w2.drew → Calls Tryz.prog 167 #[.pointer (some ⟨p2, 0, none⟩), .int .i64 gn] W2 fun e0 w' => ∃ (A : Option Addr) (n c' : Nat) (J : List Int), e0 = .returned (.slice A n c') ∧ (w'.cell? ⟨gm, 1, none⟩ = some (.pointer (some ⟨p2, 0, none⟩)) ∧ w'.cell? ⟨gm, 6, none⟩ = some (.int .i64 gn)) ∧ J.length = n ∧ n ≤ c' ∧ n ≤ N ∧ SwR B T w gm p1 p2 p3 p4 p5 p6 L ep' N f A J w') := by
      show ∀ W2, _
      intro W2 hW2
      have hb2 : Below w2.heap.size w2 W2 := by rw [hW2]; exact (Below.refl _ _).drew
      have hm2 := hm.below hb2
      have hl := hm2.len
      refine (sOn_any hm2.smp (fun k hk => (hm2.fits.2 k (by rw [hk]; decide)).2) (by omega) gn).mono ?_
      rintro e0 w' ⟨v, rfl, ⟨J, hJ, hJl⟩, hbb⟩
      obtain ⟨A, c', rfl⟩ := own_form hJ
      have m1 := hm2.below hbb
      have hq3 := (hq.below hb2 hq.lt).below hbb (hq.below hb2 hq.lt).lt
      exact ⟨A, J.length, c', J, rfl, ⟨(hq3.cell 1).trans rfl, (hq3.cell 6).trans rfl⟩, rfl, (own_holdsS hJ).2.1, by omega, T', m1, hg.trans ((Goes.below hb2).trans (Goes.below hbb)), RowJ.own hJ fun k hk => hm2.fits.zero hk⟩
    clear hm hg hq
    go_upto_region 4 with (fail)
    go_region_held3 (fun w' => w'.cell? ⟨gm, 1, none⟩ = some (.pointer (some ⟨p2, 0, none⟩)) ∧ w'.cell? ⟨gm, 6, none⟩ = some (.int .i64 gn)) (first | (with_reducible exact hS) | (with_reducible exact ⟨q1, q6⟩) | go_keep) ((go_at_call 167; refine (hcO.out _ (by rfl)).mono ?_; rintro e0 w' ⟨A, n, c', J, rfl, hS, hJ, hnc, hnN, hI⟩))
    have HI := hid hI
    have HJ := hid hJ
    clear hS hI hJ q1 q6 hgl' hcO
    have HE := hid (And.intro hx hnN)
    clear hx hnN
    go_wp2_with fail
    go_loopw [35] (fun v35 wr => ∃ k : Nat, k ≤ n ∧ v35 = .int .i64 k ∧ Hid (SwR B T w gm p1 p2 p3 p4 p5 p6 L ep' N f A J wr)) (fun v35 _ => n - (intOf v35).toNat)
    case atStart => exact ⟨0, Nat.zero_le _, rfl, HI.out⟩
    case round =>
      obtain ⟨k, hk, rfl, hI⟩ := hrel
      obtain ⟨T3, hm, hg, hJ⟩ := hI.out
      by_cases hkn : k < n
      · have hkJ : k < J.length := by rw [HJ.out]; exact hkn
        obtain ⟨ad, rfl, hb1, hb2, hb3⟩ := hJ (by omega)
        have e2 : wr.cell? (ad.add k) = some (.int .i64 J[k]) := hb3 k _ (nums_get hkJ)
        generalize J[k] = y at e2
        obtain ⟨gn, hq⟩ := hm.blk
        have q1 : wr.cell? ⟨gm, 1, none⟩ = some (.pointer (some ⟨p2, 0, none⟩)) := (hq.cell 1).trans rfl
        have hc := hid (sGet_any hm.smp y)
        have HM := hid (And.intro hm (And.intro hg (And.intro hJ hq)))
        have hgl' : gm < wr.heap.size := hq.lt
        have h0k : (0 : Int) ≤ (k : Int) := by omega
        have hkB : k < 100000 := by have := HE.out.2; omega
        have hkn2 : (k : Int) < (n : Int) := by omega
        clear hm hg hJ hq hb1 hb2 hb3 hI
        go_wp2_with fail
        refine hc.out.mono ?_
        rintro e0 w1 ⟨i, st, ow, se, ln, A2, n2, c2, xs, t, rfl, _, hbb, hl, hh, hnc2, hn3⟩
        have HB := hid (And.intro hbb (And.intro hl (And.intro hh hn3)))
        have hw1 := hbb.size
        clear hbb hl hh q1 e2 hc
        go_upto_region 8 with (fail)
        obtain ⟨w2, hw2⟩ : ∃ w2, w2 = w1.alloc (.cells #[.int .i64 i, .int .i64 st, .int .i64 ow, .int .i64 se, .int .i64 ln, .slice A2 n2 c2] 37) := ⟨_, rfl⟩
        rw [← hw2]
        have hb12 : Below w1.heap.size w1 w2 := by rw [hw2]; exact (Below.refl _ _).alloc (Nat.le_refl _) _
        have hbz : Blk w2 w1.heap.size 37 #[.int .i64 i, .int .i64 st, .int .i64 ow, .int .i64 se, .int .i64 ln, .slice A2 n2 c2] := by rw [hw2]; exact Blk.new w1 37 _
        obtain ⟨hm, hg, hJ, hq⟩ := HM.out
        have hb2 : Below wr.heap.size wr w2 := HB.out.1.trans (hb12.mono hw1)
        have hm2 := hm.below hb2
        have hg2 := hg.trans (Goes.below hb2)
        have hJ2 := hJ.goes (Goes.below (T := T3) hb2)
        have hq2 := hq.below hb2 hq.lt
        have q1 : w2.cell? ⟨gm, 1, none⟩ = some (.pointer (some ⟨p2, 0, none⟩)) := (hq2.cell 1).trans rfl
        have q6 : w2.cell? ⟨gm, 6, none⟩ = some (.int .i64 gn) := (hq2.cell 6).trans rfl
        have z5 : w2.cell? ⟨w1.heap.size, 5, none⟩ = some (.slice A2 n2 c2) := (hbz.cell 5).trans rfl
        have hcX : Hid (∀ W2, W2 = w2.drew → Calls Tryz.prog 169 #[.slice A2 n2 c2, .int .i64 gn] W2 fun e0 w' => ∃ i : Int, e0 = .returned (.int .i64 i) ∧ W2 = w') := by
          show ∀ W2, _
          intro W2 hW2
          have hb3 : Below w2.heap.size w2 W2 := by rw [hW2]; exact (Below.refl _ _).drew
          have hh2 : Holds W2 w1.heap.size A2 (nums xs) := (HB.out.2.2.1.below hb12).below (hb3.mono hb12.size)
          have hn3 := HB.out.2.2.2
          refine (index_any gn hh2 HB.out.2.1 (by omega)).mono ?_
          rintro e0 w' ⟨i, he, _, _, hw⟩
          exact ⟨i, he, hw⟩
        have hcM : Hid (∀ W2, W2 = w2.drew → ∀ ix : Int, Calls Tryz.prog 168 #[.pointer (some ⟨p2, 0, none⟩), .int .i64 y, .int .i64 ix, .int .i64 x] W2 fun e0 w' => ∃ r : Nat, e0 = .returned (.int .i64 r) ∧ (w'.cell? ⟨gm, 1, none⟩ = some (.pointer (some ⟨p2, 0, none⟩)) ∧ w'.cell? ⟨gm, 6, none⟩ = some (.int .i64 gn) ∧ w'.cell? ⟨w1.heap.size, 5, none⟩ = some (.slice A2 n2 c2)) ∧ Hid (SwR B T w gm p1 p2 p3 p4 p5 p6 L ep' N f (some ad) J w')) := by
          show ∀ W2, _
          intro W2 hW2 ix
          have hb3 : Below w2.heap.size w2 W2 := by rw [hW2]; exact (Below.refl _ _).drew
          have hm3 := hm2.below hb3
          refine (sMove_any hm3.smp y ix x).mono ?_
          rintro e0 w' ⟨r, he, _, h1, h2, h3⟩
          obtain ⟨m1, m2⟩ := hm3.smp_ (h1.mono fun _ h => .inl h) h2 hm3.len
          have hq3 := (hq2.below hb3 hq2.lt).only h2 (by show ¬ T3 gm = 2; rw [hm2.own]; decide)
          have hz3 := (hbz.below hb3 hbz.lt).only h2 (by show ¬ T3 w1.heap.size = 2; rw [hm.fits.zero hw1]; decide)
          exact ⟨r, he, ⟨(hq3.cell 1).trans rfl, (hq3.cell 6).trans rfl, (hz3.cell 5).trans rfl⟩, _, m1, (hg2.trans (Goes.below hb3)).trans m2, (hJ2.goes (Goes.below (T := T3) hb3)).goes m2⟩
        clear hw2 hb12 hbz hm hg hJ hq hb2 hm2 hg2 hJ2 hq2 HB hw1 HM HI hgl'
        go_region_held3 (fun w' => w'.cell? ⟨gm, 1, none⟩ = some (.pointer (some ⟨p2, 0, none⟩)) ∧ w'.cell? ⟨gm, 6, none⟩ = some (.int .i64 gn) ∧ w'.cell? ⟨w1.heap.size, 5, none⟩ = some (.slice A2 n2 c2)) (first | (with_reducible exact hS) | (with_reducible exact ⟨q1, q6, z5⟩) | go_keep) ((first
          | (go_at_call 169; refine (hcX.out _ (by rfl)).mono ?_; rintro e0 w' ⟨i2, rfl, rfl⟩)
          | (go_at_call 168; refine (hcM.out _ (by rfl) _).mono ?_; rintro e0 w' ⟨r2, rfl, hS, hI⟩)))
        clear hS q1 q6 z5 hcX hcM
        go_wp2_with fail
        go_roundw
        case rel => exact ⟨k + 1, by omega, by go_num, hI⟩
        case measure => simp [intOf]; omega
      · obtain rfl : k = n := by omega
        have q0 := hm.cell 0 _ (by decide) rfl
        have hgl' : gm < wr.heap.size := by obtain ⟨_, hq⟩ := hm.blk; exact hq.lt
        have HM := hid (And.intro hm hg)
        have hc := hid (gEpoch_any hm.grp)
        clear hm hg hJ hI
        go_wp2_with fail
        refine hc.out.mono ?_
        rintro e0 w3 ⟨rfl, rfl⟩
        go_wp2_with fail
        go_ret2
        have hbb := (Below.refl wr.heap.size wr).alloc (Nat.le_refl _) (.cells #[.int .i64 x, .int .i64 ep'] 3)
        exact ⟨_, 2, 2, [x, ep'], 0, T3, L, ep', rfl, rfl, holds_new _ [x, ep'] 3 _ rfl, two64 HE.out.1 HM.out.1.grp.i64, by omega, by omega, HM.out.1.below hbb, HM.out.2.trans (Goes.below hbb), rfl⟩
  · have d0 : ((r : Int) != 0) = true := by simp; omega
    have d1 : (r != 0) = true := by simp; omega
    have HM := hid (And.intro hm hg)
    clear hm hg
    go_wp2_with fail
    go_ret2
    exact ⟨none, 0, 0, [], r, T', L, ep', rfl, rfl, holds_nil _ _, (fun x hx => by cases hx), by omega, by omega, HM.out.1, HM.out.2, rfl⟩
end
end Go.Proofs.YtopbojifllnckaaGreatDoor
