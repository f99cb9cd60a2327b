/- The manager: commit. The manager: begin. -/
import Derived.Test.YtopbojifllnckaaGreatDoorG32
namespace Go.Proofs.YtopbojifllnckaaGreatDoor
open Go.RowKit
attribute [local irreducible] wpQuiet
section
variable {B : Nat} {T : Nat → Nat} {w w' : World} {gm p1 p2 p3 p4 p5 p6 : Nat} {L L' : List Str} {ep ep' : Int} {N : Nat} {f f' : Int → Int}
theorem stale_iff {a i st ow se ln cl : Int} {t : Bool} (h : Told L a i st ow se ln t) : (t && (decide (st = 1) && (decide (ow = cl) && decide (se ≠ ep)))) = true ↔ Stale L ep a cl := by
  simp only [Bool.and_eq_true, decide_eq_true_eq]
  rcases h with ⟨rfl, s, h0, h1, h2, h3, h4, _⟩ | ⟨rfl, _, _, _, _, _, h⟩
  · constructor
    · rintro ⟨_, k1, k2, k3⟩
      exact ⟨s, h0, h1, by rw [h2, k1], by rw [h3, k2], by rw [h4]; exact k3⟩
    · rintro ⟨s', _, k1, k2, k3, k4⟩
      rw [h1] at k1
      cases k1
      exact ⟨rfl, by rw [← h2, k2], by rw [← h3, k3], by rw [← h4]; exact k4⟩
  · constructor
    · rintro ⟨k, _⟩
      cases k
    · rintro ⟨s', k0, k1, _⟩
      have := (List.getElem?_eq_some_iff.1 k1).1
      omega
set_option maxRecDepth 100000 in
set_option maxHeartbeats 1600000 in
theorem commit_any (h : Mgr B T w gm p1 p2 p3 p4 p5 p6 L ep N f) (cl sq kd a b c d e : Int) (hN : N ≤ 100000) :
    Calls Tryz.prog 94 #[.pointer (some ⟨gm, 0, none⟩), .agg #[.int .i64 cl, .int .i64 sq, .int .i64 kd, .int .i64 a, .int .i64 b, .int .i64 c, .int .i64 d, .int .i64 e]] w (DEnd B T w gm p1 p2 p3 p4 p5 p6 (N + 1) f fun L' ep' l r => DoR 2 cl a L ep L' ep' l r) := by
  obtain ⟨W, hW⟩ : ∃ W, W = w.alloc (.cells #[.int .i64 cl, .int .i64 sq, .int .i64 kd, .int .i64 a, .int .i64 b, .int .i64 c, .int .i64 d, .int .i64 e] 30) := ⟨_, rfl⟩
  have hb : Below w.heap.size w W := by rw [hW]; exact (Below.refl _ _).alloc (Nat.le_refl _) _
  have hBx : Blk W w.heap.size 30 #[.int .i64 cl, .int .i64 sq, .int .i64 kd, .int .i64 a, .int .i64 b, .int .i64 c, .int .i64 d, .int .i64 e] := by rw [hW]; exact Blk.new w 30 _
  have hm := h.below hb
  have hT0 : T w.heap.size = 0 := h.fits.zero (Nat.le_refl _)
  obtain ⟨gone, hg⟩ := hm.blk
  have b0 : W.cell? ⟨w.heap.size, 0, none⟩ = some (.int .i64 cl) := (hBx.cell 0).trans rfl
  have b3 : W.cell? ⟨w.heap.size, 3, none⟩ = some (.int .i64 a) := (hBx.cell 3).trans rfl
  have hgl := hg.lt
  have hbl := hBx.lt
  have g1 := hm.cell 1 _ (by decide) rfl
  have hcall : Hid (∀ W2, Below W.heap.size W W2 → Calls Tryz.prog 44 #[.pointer (some ⟨p2, 0, none⟩), .int .i64 a] W2 fun e0 w' => ∃ (i st ow se ln : Int) (A : Option Addr) (n c' : Nat) (t : Bool), e0 = .returned (.tuple #[.agg #[.int .i64 i, .int .i64 st, .int .i64 ow, .int .i64 se, .int .i64 ln, .slice A n c'], .bool t]) ∧ gm < w'.heap.size ∧ w.heap.size < w'.heap.size ∧ (w'.cell? ⟨gm, 1, none⟩ = some (.pointer (some ⟨p2, 0, none⟩)) ∧ w'.cell? ⟨w.heap.size, 3, none⟩ = some (.int .i64 a)) ∧ Hid (Told L a i st ow se ln t ∧ Below W.heap.size W w' ∧ ∀ k t cs, Blk W2 k t cs → Blk w' k t cs)) := by
    show ∀ W2, _
    intro W2 hb2
    have hm2 := hm.below hb2
    refine (sGet_any hm2.smp a).mono ?_
    rintro e0 w' ⟨i, st, ow, se, ln, A, n, c', xs, t, he, ht, hbb, _⟩
    have hB3 := hBx.below (hb2.trans (hbb.mono hb2.size)) hBx.lt
    have m1 := hm2.below hbb
    exact ⟨i, st, ow, se, ln, A, n, c', t, he, (by obtain ⟨_, hq⟩ := m1.blk; exact hq.lt), hB3.lt, ⟨m1.cell 1 _ (by decide) rfl, (hB3.cell 3).trans rfl⟩, ht, hb2.trans (hbb.mono hb2.size), fun k t cs hB => hB.below hbb hB.lt⟩
  have hne1 : gm ≠ W.heap.size := Nat.ne_of_lt hgl
  have hne2 : w.heap.size ≠ W.heap.size := Nat.ne_of_lt hbl
  have hTW : T W.heap.size = 0 := hm.fits.zero (Nat.le_refl _)
  have hW0 : Hid (Below W.heap.size W W.drew) := (Below.refl _ _).drew
  have hW1 : Hid (Below W.heap.size W (W.alloc (.cells #[.int .i64 0, .int .i64 0, .int .i64 0, .int .i64 0, .int .i64 0, .slice none 0 0] 37)).drew) := ((Below.refl _ _).alloc (Nat.le_refl _) _).drew
  have HM := hid (And.intro hm (And.intro hBx hb))
  clear hm hg hBx hb h
  go_enter Tryz.func94, Tryz.ntmps94
  go_upto_region 1 with (fail)
  rw [← hW]
  clear hW
  go_cut [6, 7] (fun s6 s7 wx => ∃ (z : Nat) (i st ow se ln : Int) (A : Option Addr) (n c' : Nat) (t : Bool), s6 = .pointer (some ⟨z, 0, none⟩) ∧ s7 = .bool t ∧ Hid (W.heap.size ≤ z ∧ Blk wx z 37 #[.int .i64 i, .int .i64 st, .int .i64 ow, .int .i64 se, .int .i64 ln, .slice A n c'] ∧ Told L a i st ow se ln t ∧ Below W.heap.size W wx))
  case first =>
    go_region_held3 (fun w' => w'.cell? ⟨gm, 1, none⟩ = some (.pointer (some ⟨p2, 0, none⟩)) ∧ w'.cell? ⟨w.heap.size, 3, none⟩ = some (.int .i64 a)) (first | (with_reducible exact hS) | (with_reducible exact ⟨cell6 hne1 _ _ _ _ _ _ hS.1, cell6 hne2 _ _ _ _ _ _ hS.2⟩) | (with_reducible exact ⟨cellAl hgl' _ hS.1, cellAl hbl' _ hS.2⟩) | (with_reducible exact ⟨cellAl hgl _ g1, cellAl hbl _ b3⟩) | go_keep) ((go_at_call 44; first
      | (refine (hcall.out _ hW0.out).mono ?_; rintro e0 w' ⟨i, st, ow, se, ln, A, n, c', t, rfl, hgl', hbl', hS, hx⟩)
      | (refine (hcall.out _ hW1.out).mono ?_; rintro e0 w' ⟨i, st, ow, se, ln, A, n, c', t, rfl, hgl', hbl', hS, hx⟩; have hZZ := hx; have hZ := hx.out.2.2 W.heap.size 37 _ (Blk.new W 37 #[.int .i64 0, .int .i64 0, .int .i64 0, .int .i64 0, .int .i64 0, .slice none 0 0]); have z0 : w'.cell? ⟨W.heap.size, 0, none⟩ = some (.int .i64 0) := (hZ.cell 0).trans rfl; have z1 : w'.cell? ⟨W.heap.size, 1, none⟩ = some (.int .i64 0) := (hZ.cell 1).trans rfl; have z2 : w'.cell? ⟨W.heap.size, 2, none⟩ = some (.int .i64 0) := (hZ.cell 2).trans rfl; have z3 : w'.cell? ⟨W.heap.size, 3, none⟩ = some (.int .i64 0) := (hZ.cell 3).trans rfl; have z4 : w'.cell? ⟨W.heap.size, 4, none⟩ = some (.int .i64 0) := (hZ.cell 4).trans rfl; have z5 : w'.cell? ⟨W.heap.size, 5, none⟩ = some (.slice none 0 0) := (hZ.cell 5).trans rfl; have u0 := hZ.frozen 0; have u1 := hZ.frozen 1; have u2 := hZ.frozen 2; have u3 := hZ.frozen 3; have u4 := hZ.frozen 4; have u5 := hZ.frozen 5)))
    · obtain ⟨ht, hb2, _⟩ := hx.out
      have hbb0 : Below W.heap.size W (w'.alloc (.cells #[.int .i64 i, .int .i64 st, .int .i64 ow, .int .i64 se, .int .i64 ln, .slice A n c'] 37)) := hb2.alloc hb2.size _
      have HB := hid (And.intro hb2 hbb0)
      clear hbb0 hcall hS hb2
      go_wp2_with fail
      go_meet
      exact ⟨_, i, st, ow, se, ln, A, n, c', t, rfl, rfl, ⟨HB.out.1.size, Blk.new w' 37 _, ht, HB.out.2⟩⟩
    · obtain ⟨ht, hb2, m4⟩ := hx.out
      have hZ5 := hid (((((((m4 W.heap.size 37 _ (Blk.new W 37 #[.int .i64 0, .int .i64 0, .int .i64 0, .int .i64 0, .int .i64 0, .slice none 0 0])).set_ 0 (.int .i64 i)).set_ 1 (.int .i64 st)).set_ 2 (.int .i64 ow)).set_ 3 (.int .i64 se)).set_ 4 (.int .i64 ln)).set_ 5 (.slice A n c'))
      have hbb0 := hid (below6 hb2 (Nat.le_refl _) (.int .i64 i) (.int .i64 st) (.int .i64 ow) (.int .i64 se) (.int .i64 ln) (.slice A n c'))
      clear hcall hS hb2 m4
      go_wp2_with fail
      go_meet
      exact ⟨_, i, st, ow, se, ln, A, n, c', t, rfl, rfl, ⟨Nat.le_refl _, hZ5.out, ht, hbb0.out⟩⟩
  case rest =>
    obtain ⟨z, i, st, ow, se, ln, A, n, c', t, rfl, rfl, HX⟩ := hcut
    obtain ⟨hz, hZ, hT, hbel⟩ := HX.out
    obtain ⟨hm, hBx, hb⟩ := HM.out
    have m := hm.below hbel
    have hB := hBx.below hbel hBx.lt
    have q0 := m.cell 0 _ (by decide) rfl
    have y0 : wc.cell? ⟨w.heap.size, 0, none⟩ = some (.int .i64 cl) := (hB.cell 0).trans rfl
    have x1 : wc.cell? ⟨z, 1, none⟩ = some (.int .i64 st) := (hZ.cell 1).trans rfl
    have x2 : wc.cell? ⟨z, 2, none⟩ = some (.int .i64 ow) := (hZ.cell 2).trans rfl
    have x3 : wc.cell? ⟨z, 3, none⟩ = some (.int .i64 se) := (hZ.cell 3).trans rfl
    have hgl' : gm < wc.heap.size := by obtain ⟨_, hq⟩ := m.blk; exact hq.lt
    have hep : Hid (∀ q, Calls Tryz.prog 43 #[.pointer (some ⟨p1, 0, none⟩)] (wc.drewN q) fun e0 w' => e0 = .returned (.int .i64 ep) ∧ w' = wc.drewN q) := fun q => (gEpoch_any (m.below (below_drewN (Below.refl _ _) q)).grp).mono fun _ _ h => ⟨h.1, h.2.symm⟩
    obtain ⟨bad, hbad⟩ : ∃ bad : Bool, bad = (t && (decide (st = 1) && (decide (ow = cl) && decide (se ≠ ep)))) := ⟨_, rfl⟩
    have HBAD := hid hbad
    clear hz hZ hT hbel hm hBx hb m hB hbad
    go_upto_region 2 with (fail)
    go_cut [41] (fun s41 wx => s41 = .bool bad ∧ Hid (W.heap.size ≤ z ∧ Blk wx z 37 #[.int .i64 i, .int .i64 st, .int .i64 ow, .int .i64 se, .int .i64 ln, .slice A n c'] ∧ Below W.heap.size W wx))
    case first =>
      cases t with
      | false =>
        go_quiet (fail)
        go_wp2_with fail
        go_meet
        exact ⟨by rw [HBAD.out]; rfl, ⟨HX.out.1, HX.out.2.1.drewN _, below_drewN HX.out.2.2.2 _⟩⟩
      | true =>
        by_cases c1 : st = 1
        · have d1 : (st == 1) = true := by simp [c1]
          by_cases c2 : ow = cl
          · have d2 : (ow == cl) = true := by simp [c2]
            subst c1 c2
            go_quiet (first | (go_at_call 43; refine Calls.quiet_of_same (hep.out _)))
            go_wp2_with fail
            go_meet
            exact ⟨by rw [HBAD.out]; by_cases hh : se = ep <;> simp [hh, bne], ⟨HX.out.1, HX.out.2.1.drewN _, below_drewN HX.out.2.2.2 _⟩⟩
          · have d2 : (ow == cl) = false := by simp [c2]
            go_quiet (fail)
            go_wp2_with fail
            go_meet
            exact ⟨by rw [HBAD.out]; simp [c1, c2], ⟨HX.out.1, HX.out.2.1.drewN _, below_drewN HX.out.2.2.2 _⟩⟩
        · have d1 : (st == 1) = false := by simp [c1]
          go_quiet (fail)
          go_wp2_with fail
          go_meet
          exact ⟨by rw [HBAD.out]; simp [c1], ⟨HX.out.1, HX.out.2.1.drewN _, below_drewN HX.out.2.2.2 _⟩⟩
    case rest =>
      obtain ⟨rfl, HZ⟩ := hcut
      obtain ⟨hm, hBx, hb⟩ := HM.out
      obtain ⟨hz, hZ, hbel⟩ := HZ.out
      have hst := stale_iff (cl := cl) (ep := ep) HX.out.2.2.1
      rw [← HBAD.out] at hst
      have HST := hid hst
      have m := hm.below hbel
      have hg0 := Goes.below (T := T) (hb.trans (hbel.mono hb.size))
      have hB := hBx.below hbel hBx.lt
      have hgl' : gm < wc.heap.size := by obtain ⟨_, hq⟩ := m.blk; exact hq.lt
      cases bad with
      | true =>
        have HM2 := hid (And.intro m hg0)
        clear hm hBx hb hz hZ hbel m hg0 hB hst
        go_wp2_with fail
        go_ret2
        exact ⟨none, 0, 0, [], 10, T, L, ep, rfl, rfl, holds_nil _ _, (fun x hx => by cases hx), by omega, by omega, HM2.out.1.more (Nat.le_succ N), HM2.out.2, .inr (.inl ⟨rfl, rfl, .inl ⟨HST.out.1 (by trivial), rfl, rfl⟩⟩)⟩
      | false =>
        have hns : ¬ Stale L ep a cl := fun h => by have := HST.out.2 h; cases this
        have q1 := m.cell 1 _ (by decide) rfl
        have y0 : wc.cell? ⟨w.heap.size, 0, none⟩ = some (.int .i64 cl) := (hB.cell 0).trans rfl
        have y3 : wc.cell? ⟨w.heap.size, 3, none⟩ = some (.int .i64 a) := (hB.cell 3).trans rfl
        have hTz : T z = 0 := hm.fits.zero hz
        obtain ⟨r, hr⟩ : ∃ r, r = comE L a cl := ⟨_, rfl⟩
        have hcall2 : Hid (∀ W2, W2 = wc.drewN 1 → Calls Tryz.prog 158 #[.pointer (some ⟨p2, 0, none⟩), .int .i64 a, .int .i64 cl] W2 fun e0 w' => e0 = .returned (.int .i64 r) ∧ ∃ T', Mgr B T' w' gm p1 p2 p3 p4 p5 p6 (comL L a cl) ep N f ∧ Goes T w T' w' ∧ Blk w' w.heap.size 30 #[.int .i64 cl, .int .i64 sq, .int .i64 kd, .int .i64 a, .int .i64 b, .int .i64 c, .int .i64 d, .int .i64 e] ∧ Blk w' z 37 #[.int .i64 i, .int .i64 st, .int .i64 ow, .int .i64 se, .int .i64 ln, .slice A n c']) := by
          show ∀ W2, _
          intro W2 hW2
          have hb2 : Below wc.heap.size wc W2 := by rw [hW2]; exact below_drewN (Below.refl _ _) 1
          have hm2 := m.below hb2
          refine (sCommit_any hm2.smp a cl).mono ?_
          rintro e0 w' ⟨he, h1, h2, h3⟩
          obtain ⟨m1, m2⟩ := hm2.smp_ (h1.mono fun _ h => .inl h) h2 (by rw [comL_len]; exact hm2.len)
          rw [hr]
          exact ⟨he, _, m1, (hg0.trans (Goes.below hb2)).trans m2, (hB.below hb2 hB.lt).only h2 (by show ¬ T w.heap.size = 2; rw [hT0]; decide), (hZ.below hb2 hZ.lt).only h2 (by show ¬ T z = 2; rw [hTz]; decide)⟩
        have hr17 : r < 17 := by rw [hr]; exact comE_lt L a cl
        have hR := hid (And.intro hr hns)
        clear hm hBx hb hz hZ hbel m hg0 hB hst hr hns
        go_upto_region 4 with (fail)
        go_still_tail 8, (by kernel_rfl)
        change wpList _ _ _ _ _ (wc.drewN 1)
        go_wp2_with fail
        refine (hcall2.out _ rfl).mono ?_
        rintro e0 w' ⟨rfl, T', hx, hy, hz1, hz2⟩
        have HX1 := hid (And.intro hx hy)
        have q3' : w'.cell? ⟨gm, 3, none⟩ = some (.pointer (some ⟨p4, 0, none⟩)) := hx.cell 3 _ (by decide) rfl
        have q3 : w'.cell? ⟨w.heap.size, 3, none⟩ = some (.int .i64 a) := (hz1.cell 3).trans rfl
        have q4 : w'.cell? ⟨z, 4, none⟩ = some (.int .i64 ln) := (hz2.cell 4).trans rfl
        have hgl2 : gm < w'.heap.size := by obtain ⟨_, hq⟩ := hx.blk; exact hq.lt
        clear hx hy hz1 hz2 q1 y0 y3 hgl'
        by_cases h0 : r = 0
        · subst h0
          by_cases hl0 : 0 < ln
          · have d2 : decide (0 < ln) = true := by simp [hl0]
            have hcall3 : Hid (∀ W2, W2 = w'.drewN 1 → Calls Tryz.prog 159 #[.pointer (some ⟨p4, 0, none⟩), .int .i64 a, .int .i64 ln, .int .i64 ln, .int .i64 0] W2 fun e0 w2 => RInt e0 ∧ ∃ T2, Mgr B T2 w2 gm p1 p2 p3 p4 p5 p6 (comL L a cl) ep (N + 1) f ∧ Goes T w T2 w2) := by
              show ∀ W2, _
              intro W2 hW2
              have hb2 : Below w'.heap.size w' W2 := by rw [hW2]; exact below_drewN (Below.refl _ _) 1
              have hm2 := HX1.out.1.below hb2
              refine (uAdd_any hm2.usg (by omega) a ln ln 0).mono ?_
              rintro e0 w2 ⟨he, h1, h2⟩
              obtain ⟨m1, m2⟩ := (hm2.more (Nat.le_succ N)).usg_ h1 h2
              exact ⟨he, _, m1, (HX1.out.2.trans (Goes.below hb2)).trans m2⟩
            go_upto_region 6 with (fail)
            go_still_tail 10, (by kernel_rfl)
            change wpList _ _ _ _ _ (w'.drewN 1)
            go_wp2_with fail
            refine (hcall3.out _ rfl).mono ?_
            rintro e0 w2 ⟨⟨t2, rfl⟩, T2, hx2, hy2⟩
            have HX2 := hid hx2
            have HY2 := hid hy2
            clear hx2 hy2 q3 q3' q4
            go_wp2_with fail
            go_ret2
            exact ⟨none, 0, 0, [], 0, T2, _, ep, rfl, rfl, holds_nil _ _, (fun x hx => by cases hx), by omega, by omega, HX2.out, HY2.out, .inr (.inl ⟨rfl, rfl, .inr ⟨hR.out.2, rfl, hR.out.1⟩⟩)⟩
          · have d2 : decide (0 < ln) = false := by simp; omega
            go_wp2_with fail
            go_ret2
            exact ⟨none, 0, 0, [], 0, T', _, ep, rfl, rfl, holds_nil _ _, (fun x hx => by cases hx), by omega, by omega, HX1.out.1.more (Nat.le_succ N), HX1.out.2, .inr (.inl ⟨rfl, rfl, .inr ⟨hR.out.2, rfl, hR.out.1⟩⟩)⟩
        · have d0 : ((r : Int) == 0) = false := by simp; omega
          have d1 : (r == 0) = false := by simp; omega
          go_wp2_with fail
          go_ret2
          exact ⟨none, 0, 0, [], r, T', _, ep, rfl, rfl, holds_nil _ _, (fun x hx => by cases hx), by omega, by omega, HX1.out.1.more (Nat.le_succ N), HX1.out.2, .inr (.inl ⟨rfl, rfl, .inr ⟨hR.out.2, rfl, hR.out.1⟩⟩)⟩
end
end Go.Proofs.YtopbojifllnckaaGreatDoor
namespace Go.Proofs.YtopbojifllnckaaGreatDoor
open Go.RowKit
attribute [local irreducible] wpQuiet
section
variable {B : Nat} {T : Nat → Nat} {w w' : World} {gm p1 p2 p3 p4 p5 p6 : Nat} {L L' : List Str} {ep ep' : Int} {N : Nat} {f f' : Int → Int}
set_option maxRecDepth 100000 in
set_option maxHeartbeats 1600000 in
theorem begin_any (h : Mgr B T w gm p1 p2 p3 p4 p5 p6 L ep N f) (cl sq kd a b c d e : Int) (hN : N ≤ 100000) :
    Calls Tryz.prog 93 #[.pointer (some ⟨gm, 0, none⟩), .agg #[.int .i64 cl, .int .i64 sq, .int .i64 kd, .int .i64 a, .int .i64 b, .int .i64 c, .int .i64 d, .int .i64 e]] w (DEnd B T w gm p1 p2 p3 p4 p5 p6 (N + 1) f fun L' ep' l r => DoR 1 cl a L ep L' ep' l r) := by
  obtain ⟨W, hW⟩ : ∃ W, W = w.alloc (.cells #[.int .i64 cl, .int .i64 sq, .int .i64 kd, .int .i64 a, .int .i64 b, .int .i64 c, .int .i64 d, .int .i64 e] 30) := ⟨_, rfl⟩
  have hb : Below w.heap.size w W := by rw [hW]; exact (Below.refl _ _).alloc (Nat.le_refl _) _
  have hBx : Blk W w.heap.size 30 #[.int .i64 cl, .int .i64 sq, .int .i64 kd, .int .i64 a, .int .i64 b, .int .i64 c, .int .i64 d, .int .i64 e] := by rw [hW]; exact Blk.new w 30 _
  have hm := h.below hb
  have hT0 : T w.heap.size = 0 := h.fits.zero (Nat.le_refl _)
  obtain ⟨gone, hg⟩ := hm.blk
  have b0 : W.cell? ⟨w.heap.size, 0, none⟩ = some (.int .i64 cl) := (hBx.cell 0).trans rfl
  have b3 : W.cell? ⟨w.heap.size, 3, none⟩ = some (.int .i64 a) := (hBx.cell 3).trans rfl
  have hgl := hg.lt
  have hbl := hBx.lt
  have g0 := hm.cell 0 _ (by decide) rfl
  have g1 := hm.cell 1 _ (by decide) rfl
  have hcE : Hid (∀ W2, Below W.heap.size W W2 → Calls Tryz.prog 43 #[.pointer (some ⟨p1, 0, none⟩)] W2 fun e0 w' => e0 = .returned (.int .i64 ep) ∧ W2 = w') := by
    show ∀ W2, _
    intro W2 hb2
    exact gEpoch_any (hm.below hb2).grp
  have hcS : Hid (∀ W2, Below W.heap.size W W2 → Calls Tryz.prog 157 #[.pointer (some ⟨p1, 0, none⟩)] W2 fun e0 w' => ∃ q : Nat, e0 = .returned (.slice (some ⟨q, 0, none⟩) 3 3) ∧ gm < w'.heap.size ∧ w.heap.size < w'.heap.size ∧ (w'.cell? ⟨gm, 0, none⟩ = some (.pointer (some ⟨p1, 0, none⟩)) ∧ w'.cell? ⟨gm, 1, none⟩ = some (.pointer (some ⟨p2, 0, none⟩)) ∧ w'.cell? ⟨w.heap.size, 0, none⟩ = some (.int .i64 cl) ∧ w'.cell? ⟨w.heap.size, 3, none⟩ = some (.int .i64 a)) ∧ Hid (Below W.heap.size W w' ∧ ∃ xs : List Int, xs.length = 3 ∧ Holds w' w'.heap.size (some ⟨q, 0, none⟩) (nums xs))) := by
    show ∀ W2, _
    intro W2 hb2
    have hm2 := hm.below hb2
    refine (gServers_any hm2.grp).mono ?_
    rintro e0 w' ⟨v, rfl, ⟨x, y, u, _, _, _, rfl, hv⟩, hbb⟩
    have hB3 := hBx.below (hb2.trans (hbb.mono hb2.size)) hBx.lt
    have m1 := hm2.below hbb
    exact ⟨_, rfl, (by obtain ⟨_, hq⟩ := m1.blk; exact hq.lt), hB3.lt, ⟨m1.cell 0 _ (by decide) rfl, m1.cell 1 _ (by decide) rfl, (hB3.cell 0).trans rfl, (hB3.cell 3).trans rfl⟩, hb2.trans (hbb.mono hb2.size), [x, y, u], rfl, (Holds.of_blk hv 0 3 hv.lt)⟩
  have hcB : Hid (∀ W2 (q : Nat), Below W.heap.size W W2 → (∃ xs : List Int, xs.length = 3 ∧ Holds W2 W2.heap.size (some ⟨q, 0, none⟩) (nums xs)) → Calls Tryz.prog 156 #[.pointer (some ⟨p2, 0, none⟩), .int .i64 cl, .int .i64 ep, .int .i64 a, .slice (some ⟨q, 0, none⟩) 3 3] W2 fun e0 w' => ∃ (id : Int) (r : Nat), e0 = .returned (.tuple #[.int .i64 id, .int .i64 r]) ∧ (w'.cell? ⟨gm, 0, none⟩ = some (.pointer (some ⟨p1, 0, none⟩)) ∧ w'.cell? ⟨gm, 1, none⟩ = some (.pointer (some ⟨p2, 0, none⟩)) ∧ w'.cell? ⟨w.heap.size, 0, none⟩ = some (.int .i64 cl) ∧ w'.cell? ⟨w.heap.size, 3, none⟩ = some (.int .i64 a)) ∧ Hid (I64 id ∧ r < 17 ∧ ∃ T' L', Mgr B T' w' gm p1 p2 p3 p4 p5 p6 L' ep (N + 1) f ∧ Goes T w T' w' ∧ DoR 1 cl a L ep L' ep [id, ep] r)) := by
    show ∀ W2, _
    intro W2 q hb2 ⟨xs, hx, hh⟩
    have hm2 := hm.below hb2
    have hl := hm2.len
    have hB2 := hBx.below hb2 hBx.lt
    refine (sBegin_any hm2.smp (fun k hk => (hm2.fits.2 k (by rw [hk]; decide)).2) cl ep a hh (Nat.le_refl _) hx (by omega)).mono ?_
    rintro e0 w' ⟨ho, ⟨er, h0, h1, rfl, hs⟩ | ⟨q', c', rfl, hs⟩⟩
    · obtain ⟨m1, m2⟩ := (hm2.more (Nat.le_succ N)).smp_ (hs.mono fun _ h => .inl h) ho (by omega)
      have hB3 := hB2.only ho (by show ¬ T w.heap.size = 2; rw [hT0]; decide)
      exact ⟨0, er, rfl, ⟨m1.cell 0 _ (by decide) rfl, m1.cell 1 _ (by decide) rfl, (hB3.cell 0).trans rfl, (hB3.cell 3).trans rfl⟩, ⟨by omega, by omega⟩, h1, _, L, m1, (Goes.below (hb.trans (hb2.mono hb.size))).trans m2, .inl ⟨rfl, .inl ⟨rfl, h0⟩⟩⟩
    · obtain ⟨m1, m2⟩ := (hm2.more (Nat.le_succ N)).smp_ hs ho (by simp; omega)
      have hB3 := hB2.only ho (by show ¬ T w.heap.size = 2; rw [hT0]; decide)
      exact ⟨L.length, 0, rfl, ⟨m1.cell 0 _ (by decide) rfl, m1.cell 1 _ (by decide) rfl, (hB3.cell 0).trans rfl, (hB3.cell 3).trans rfl⟩, ⟨by omega, by omega⟩, by omega, _, _, m1, (Goes.below (hb.trans (hb2.mono hb.size))).trans m2, .inl ⟨rfl, .inr ⟨_, rfl, rfl, rfl, rfl, rfl, rfl, rfl⟩⟩⟩
  have hI := hid hm.grp.i64
  have hW0 : Hid (Below W.heap.size W W.drew) := (Below.refl _ _).drew
  clear hm hg hBx hb h
  go_enter Tryz.func93, Tryz.ntmps93
  go_upto_region 1 with (fail)
  rw [← hW]
  clear hW
  go_cut [6, 7] (fun s6 s7 wx => ∃ (id : Int) (r : Nat), s6 = .int .i64 id ∧ s7 = .int .i64 r ∧ Hid (I64 id ∧ r < 17 ∧ ∃ T' L', Mgr B T' wx gm p1 p2 p3 p4 p5 p6 L' ep (N + 1) f ∧ Goes T w T' wx ∧ DoR 1 cl a L ep L' ep [id, ep] r))
  case first =>
    go_region_held3 (fun w' => w'.cell? ⟨gm, 0, none⟩ = some (.pointer (some ⟨p1, 0, none⟩)) ∧ w'.cell? ⟨gm, 1, none⟩ = some (.pointer (some ⟨p2, 0, none⟩)) ∧ w'.cell? ⟨w.heap.size, 0, none⟩ = some (.int .i64 cl) ∧ w'.cell? ⟨w.heap.size, 3, none⟩ = some (.int .i64 a)) (first | (with_reducible exact hS) | (with_reducible exact ⟨g0, g1, b0, b3⟩) | go_keep) ((first
      | (go_at_call 43; first
        | (refine (hcE.out _ hW0.out).mono ?_; rintro e0 w' ⟨rfl, rfl⟩)
        | (refine (hcE.out _ hx.out.1).mono ?_; rintro e0 w' ⟨rfl, rfl⟩))
      | (go_at_call 157; refine (hcS.out _ hW0.out).mono ?_; rintro e0 w' ⟨q, rfl, hgl', hbl', hS, hx⟩)
      | (go_at_call 156; refine (hcB.out _ _ hx.out.1 hx.out.2).mono ?_; rintro e0 w' ⟨id, r, rfl, hS, hy⟩)))
    all_goals
      go_wp2_with fail
      go_meet
      exact ⟨id, r, rfl, rfl, hy⟩
  case rest =>
    obtain ⟨id, r, rfl, rfl, HX⟩ := hcut
    obtain ⟨i1, i2, T', L', m1, m2, i3⟩ := HX.out
    have HY := hid (And.intro i1 (And.intro i2 (And.intro m1 (And.intro m2 i3))))
    have q0 := m1.cell 0 _ (by decide) rfl
    have hgl' : gm < wc.heap.size := by obtain ⟨_, hq⟩ := m1.blk; exact hq.lt
    have hep := hid m1.grp
    clear i1 i2 m1 m2 i3
    go_wp2_with fail
    refine (gEpoch_any hep.out).mono ?_
    rintro e0 w2 ⟨rfl, rfl⟩
    go_wp2_with fail
    go_ret2
    obtain ⟨i1, i2, m1, m2, i3⟩ := HY.out
    have hbb := (Below.refl wc.heap.size wc).alloc (Nat.le_refl _) (.cells #[.int .i64 id, .int .i64 ep] 3)
    exact ⟨_, 2, 2, [id, ep], r, T', L', ep, rfl, rfl, holds_new _ [id, ep] 3 _ rfl, two64 i1 hI.out, by omega, by omega, m1.below hbb, m2.trans (Goes.below hbb), i3⟩
end
end Go.Proofs.YtopbojifllnckaaGreatDoor
