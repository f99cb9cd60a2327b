/- The manager of an array: commit. The manager of an array: swap. -/
import Derived.Test.YtopbojifllnckaaGreatDoorG33
namespace Go.Proofs.YtopbojifllnckaaGreatDoor
open Go.RowKit
attribute [local irreducible] wpQuiet
theorem cellAl_ {w' : World} {p : Addr} {v : Value} (hlt : p.block < w'.heap.size) (o : Obj) (h : w'.cell? p = some v) : (w'.alloc o).cell? p = some v := (World.cell?_of_block (Below.heap_alloc w' o p.block hlt)).trans h
theorem cell6_ {w' : World} {z : Nat} {p : Addr} {v : Value} (hne : p.block ≠ z) (x0 x1 x2 x3 x4 x5 : Value) (h : w'.cell? p = some v) : ((((((w'.setCell ⟨z, 0, none⟩ x0).setCell ⟨z, 1, none⟩ x1).setCell ⟨z, 2, none⟩ x2).setCell ⟨z, 3, none⟩ x3).setCell ⟨z, 4, none⟩ x4).setCell ⟨z, 5, none⟩ x5).cell? p = some v :=
  (World.cell?_of_block ((Below.heap_setCell _ ⟨z, 5, none⟩ x5 p.block hne).trans ((Below.heap_setCell _ ⟨z, 4, none⟩ x4 p.block hne).trans ((Below.heap_setCell _ ⟨z, 3, none⟩ x3 p.block hne).trans ((Below.heap_setCell _ ⟨z, 2, none⟩ x2 p.block hne).trans ((Below.heap_setCell _ ⟨z, 1, none⟩ x1 p.block hne).trans (Below.heap_setCell w' ⟨z, 0, none⟩ x0 p.block hne))))))).trans h
theorem below6_ {w w' : World} {z B : Nat} (h : Below B w w') (hz : B ≤ z) (x0 x1 x2 x3 x4 x5 : Value) : Below B w ((((((w'.setCell ⟨z, 0, none⟩ x0).setCell ⟨z, 1, none⟩ x1).setCell ⟨z, 2, none⟩ x2).setCell ⟨z, 3, none⟩ x3).setCell ⟨z, 4, none⟩ x4).setCell ⟨z, 5, none⟩ x5) :=
  (((((h.setCell (p := ⟨z, 0, none⟩) hz x0).setCell (p := ⟨z, 1, none⟩) hz x1).setCell (p := ⟨z, 2, none⟩) hz x2).setCell (p := ⟨z, 3, none⟩) hz x3).setCell (p := ⟨z, 4, none⟩) hz x4).setCell (p := ⟨z, 5, none⟩) hz x5
section
variable {B : Nat} {T : Nat → Nat} {w w' : World} {x : X}
set_option maxRecDepth 100000 in
set_option maxHeartbeats 1600000 in
theorem mcommit (h : Arr B T w x) (hep : x.G.ep = 1) (hN : x.N ≤ 100000) (j : Nat) (s : SS) (hs : x.L[j]? = some s) (hst : s.st = 1) (hln : 0 < s.ln) (sq kd b c d e : Int) :
    Calls Tryz.prog 94 #[.pointer (some ⟨x.gm, 0, none⟩), .agg #[.int .i64 3, .int .i64 sq, .int .i64 kd, .int .i64 j, .int .i64 b, .int .i64 c, .int .i64 d, .int .i64 e]] w
      (CEnd B T w { x with L := x.L.set j { s with st := 2 }, N := x.N + 1 } []) := by
  obtain ⟨y1, hy1⟩ : ∃ y : X, y = { x with L := x.L.set j { s with st := 2 } } := ⟨_, rfl⟩
  obtain ⟨y, hy⟩ : ∃ y : X, y = { y1 with N := x.N + 1 } := ⟨_, rfl⟩
  have hyy : y = { x with L := x.L.set j { s with st := 2 }, N := x.N + 1 } := by rw [hy, hy1]
  rw [← hyy]
  obtain ⟨gm, hgm⟩ : ∃ gm, gm = x.gm := ⟨_, rfl⟩
  obtain ⟨p1, hp1⟩ : ∃ p1, p1 = x.p1 := ⟨_, rfl⟩
  obtain ⟨p2, hp2⟩ : ∃ p2, p2 = x.p2 := ⟨_, rfl⟩
  obtain ⟨p4, hp4⟩ : ∃ p4, p4 = x.p4 := ⟨_, rfl⟩
  obtain ⟨ln, hl⟩ : ∃ ln, ln = s.ln := ⟨_, rfl⟩
  obtain ⟨W, hW⟩ : ∃ W, W = w.alloc (.cells #[.int .i64 3, .int .i64 sq, .int .i64 kd, .int .i64 j, .int .i64 b, .int .i64 c, .int .i64 d, .int .i64 e] 30) := ⟨_, rfl⟩
  have hb : Below w.heap.size w W := by rw [hW]; exact (Below.refl _ _).alloc (Nat.le_refl _) _
  have hBx : Blk W w.heap.size 30 #[.int .i64 3, .int .i64 sq, .int .i64 kd, .int .i64 j, .int .i64 b, .int .i64 c, .int .i64 d, .int .i64 e] := by rw [hW]; exact Blk.new w 30 _
  have hm := h.below hb
  have hT0 : T w.heap.size = 0 := h.fits.zero (Nat.le_refl _)
  have b0 : W.cell? ⟨w.heap.size, 0, none⟩ = some (.int .i64 3) := (hBx.cell 0).trans rfl
  have b3 : W.cell? ⟨w.heap.size, 3, none⟩ = some (.int .i64 j) := (hBx.cell 3).trans rfl
  have hgl : gm < W.heap.size := by rw [hgm]; exact hm.mlt
  have hbl := hBx.lt
  have g1 : W.cell? ⟨gm, 1, none⟩ = some (.pointer (some ⟨p2, 0, none⟩)) := by rw [hgm, hp2]; exact hm.mcell 1 _ rfl (by decide) (by decide)
  have hcall : Hid (∀ W2, Below W.heap.size W W2 → Calls Tryz.prog 44 #[.pointer (some ⟨p2, 0, none⟩), .int .i64 j] W2 fun e0 w' => ∃ (A : Option Addr) (n c' : Nat), e0 = .returned (.tuple #[.agg #[.int .i64 j, .int .i64 1, .int .i64 3, .int .i64 1, .int .i64 ln, .slice A n c'], .bool true]) ∧ gm < w'.heap.size ∧ w.heap.size < w'.heap.size ∧ (w'.cell? ⟨gm, 1, none⟩ = some (.pointer (some ⟨p2, 0, none⟩)) ∧ w'.cell? ⟨w.heap.size, 3, none⟩ = some (.int .i64 j)) ∧ Hid (Below W.heap.size W w' ∧ ∀ k t cs, Blk W2 k t cs → Blk w' k t cs)) := by
    show ∀ W2, _
    intro W2 hb2
    have hm2 := hm.below hb2
    rw [hp2]
    refine (vGet hm2.smp hs).mono ?_
    rintro e0 w' ⟨q, c', rfl, _, hbb⟩
    have hB3 := hBx.below (hb2.trans (hbb.mono hb2.size)) hBx.lt
    have m1 := hm2.below hbb
    refine ⟨_, 4, c', by rw [hst, hl], by rw [hgm]; exact m1.mlt, hB3.lt, ⟨by rw [hgm]; exact m1.mcell 1 _ rfl (by decide) (by decide), (hB3.cell 3).trans rfl⟩, hb2.trans (hbb.mono hb2.size), fun k t cs hB => hB.below hbb hB.lt⟩
  have hne1 : gm ≠ W.heap.size := Nat.ne_of_lt hgl
  have hne2 : w.heap.size ≠ W.heap.size := Nat.ne_of_lt hbl
  have hTW : T W.heap.size = 0 := hm.fits.zero (Nat.le_refl _)
  have hW0 : Hid (Below W.heap.size W W.drew) := (Below.refl _ _).drew
  have hW1 : Hid (Below W.heap.size W (W.alloc (.cells #[.int .i64 0, .int .i64 0, .int .i64 0, .int .i64 0, .int .i64 0, .slice none 0 0] 37)).drew) := ((Below.refl _ _).alloc (Nat.le_refl _) _).drew
  have hyg : y.gm = gm ∧ y.p4 = p4 ∧ y1.gm = gm ∧ y1.p4 = p4 ∧ y1.N = x.N := by rw [hy, hy1, hgm, hp4]; exact ⟨rfl, rfl, rfl, rfl, rfl⟩
  have HM := hid (And.intro hm (And.intro hBx (And.intro hb (And.intro hs (And.intro hst (And.intro hy1 (And.intro hp2 (And.intro hgm (And.intro hy hp1)))))))))
  rw [← hgm]
  have hl0 : 0 < ln := by rw [hl]; exact hln
  clear hm hBx hb h hy hy1 hyy hp1 hp2 hp4 hgm hs hst hl hln
  go_enter Tryz.func94, Tryz.ntmps94
  go_upto_region 1 with (fail)
  rw [← hW]
  clear hW
  go_cut [6, 7] (fun s6 s7 wx => ∃ (z : Nat) (A : Option Addr) (n c' : Nat), s6 = .pointer (some ⟨z, 0, none⟩) ∧ s7 = .bool true ∧ Hid (W.heap.size ≤ z ∧ Blk wx z 37 #[.int .i64 j, .int .i64 1, .int .i64 3, .int .i64 1, .int .i64 ln, .slice A n c'] ∧ Below W.heap.size W wx))
  case first =>
    go_region_held3 (fun w' => w'.cell? ⟨gm, 1, none⟩ = some (.pointer (some ⟨p2, 0, none⟩)) ∧ w'.cell? ⟨w.heap.size, 3, none⟩ = some (.int .i64 j)) (first | (with_reducible exact hS) | (with_reducible exact ⟨cell6_ hne1 _ _ _ _ _ _ hS.1, cell6_ hne2 _ _ _ _ _ _ hS.2⟩) | (with_reducible exact ⟨cellAl_ hgl' _ hS.1, cellAl_ hbl' _ hS.2⟩) | (with_reducible exact ⟨cellAl_ hgl _ g1, cellAl_ hbl _ b3⟩) | go_keep) ((go_at_call 44; first
      | (refine (hcall.out _ hW0.out).mono ?_; rintro e0 w' ⟨A, n, c', rfl, hgl', hbl', hS, hx⟩)
      | (refine (hcall.out _ hW1.out).mono ?_; rintro e0 w' ⟨A, n, c', rfl, hgl', hbl', hS, hx⟩; have hZZ := hx; have hZ := hx.out.2 W.heap.size 37 _ (Blk.new W 37 #[.int .i64 0, .int .i64 0, .int .i64 0, .int .i64 0, .int .i64 0, .slice none 0 0]); have z0 : w'.cell? ⟨W.heap.size, 0, none⟩ = some (.int .i64 0) := (hZ.cell 0).trans rfl; have z1 : w'.cell? ⟨W.heap.size, 1, none⟩ = some (.int .i64 0) := (hZ.cell 1).trans rfl; have z2 : w'.cell? ⟨W.heap.size, 2, none⟩ = some (.int .i64 0) := (hZ.cell 2).trans rfl; have z3 : w'.cell? ⟨W.heap.size, 3, none⟩ = some (.int .i64 0) := (hZ.cell 3).trans rfl; have z4 : w'.cell? ⟨W.heap.size, 4, none⟩ = some (.int .i64 0) := (hZ.cell 4).trans rfl; have z5 : w'.cell? ⟨W.heap.size, 5, none⟩ = some (.slice none 0 0) := (hZ.cell 5).trans rfl; have u0 := hZ.frozen 0; have u1 := hZ.frozen 1; have u2 := hZ.frozen 2; have u3 := hZ.frozen 3; have u4 := hZ.frozen 4; have u5 := hZ.frozen 5)))
    · obtain ⟨hb2, _⟩ := hx.out
      have hbb0 : Below W.heap.size W (w'.alloc (.cells #[.int .i64 j, .int .i64 1, .int .i64 3, .int .i64 1, .int .i64 ln, .slice A n c'] 37)) := hb2.alloc hb2.size _
      have HB := hid (And.intro hb2 hbb0)
      clear hbb0 hcall hS hb2
      go_wp2_with fail
      go_meet
      exact ⟨_, A, n, c', rfl, rfl, ⟨HB.out.1.size, Blk.new w' 37 _, HB.out.2⟩⟩
    · obtain ⟨hb2, m4⟩ := hx.out
      have hZ5 := hid (((((((m4 W.heap.size 37 _ (Blk.new W 37 #[.int .i64 0, .int .i64 0, .int .i64 0, .int .i64 0, .int .i64 0, .slice none 0 0])).set_ 0 (.int .i64 j)).set_ 1 (.int .i64 1)).set_ 2 (.int .i64 3)).set_ 3 (.int .i64 1)).set_ 4 (.int .i64 ln)).set_ 5 (.slice A n c'))
      have hbb0 := hid (below6_ hb2 (Nat.le_refl _) (.int .i64 j) (.int .i64 1) (.int .i64 3) (.int .i64 1) (.int .i64 ln) (.slice A n c'))
      clear hcall hS hb2 m4
      go_wp2_with fail
      go_meet
      exact ⟨_, A, n, c', rfl, rfl, ⟨Nat.le_refl _, hZ5.out, hbb0.out⟩⟩
  case rest =>
    obtain ⟨z, A, n, c', rfl, rfl, HX⟩ := hcut
    obtain ⟨hz, hZ, hbel⟩ := HX.out
    obtain ⟨hm, hBx, hb, hs, hst, hy1, hp2, hgm, hy, hp1⟩ := HM.out
    have m := hm.below hbel
    have hB := hBx.below hbel hBx.lt
    have q0 : wc.cell? ⟨gm, 0, none⟩ = some (.pointer (some ⟨p1, 0, none⟩)) := by rw [hgm, hp1]; exact m.mcell 0 _ rfl (by decide) (by decide)
    have y0 : wc.cell? ⟨w.heap.size, 0, none⟩ = some (.int .i64 3) := (hB.cell 0).trans rfl
    have x1 : wc.cell? ⟨z, 1, none⟩ = some (.int .i64 1) := (hZ.cell 1).trans rfl
    have x2 : wc.cell? ⟨z, 2, none⟩ = some (.int .i64 3) := (hZ.cell 2).trans rfl
    have x3 : wc.cell? ⟨z, 3, none⟩ = some (.int .i64 1) := (hZ.cell 3).trans rfl
    have hgl' : gm < wc.heap.size := by rw [hgm]; exact m.mlt
    have hepc : Hid (∀ q, Calls Tryz.prog 43 #[.pointer (some ⟨p1, 0, none⟩)] (wc.drewN q) fun e0 w' => e0 = .returned (.int .i64 1) ∧ w' = wc.drewN q) := by
      show ∀ q, _
      intro q
      have := gEpoch4 (m.below (below_drewN (Below.refl _ _) q)).grp
      rw [hep] at this
      rw [hp1]
      exact this.mono fun _ _ h => ⟨h.1, h.2.symm⟩
    clear hz hZ hbel hm hBx hb m hB hs hst hy1 hp2 hgm hy hp1 hep
    go_upto_region 2 with (fail)
    go_cut [41] (fun s41 wx => s41 = .bool false ∧ Hid (W.heap.size ≤ z ∧ Blk wx z 37 #[.int .i64 j, .int .i64 1, .int .i64 3, .int .i64 1, .int .i64 ln, .slice A n c'] ∧ Below W.heap.size W wx))
    case first =>
      go_quiet (first | (go_at_call 43; refine Calls.quiet_of_same (hepc.out _)))
      go_wp2_with fail
      go_meet
      exact ⟨rfl, ⟨HX.out.1, HX.out.2.1.drewN _, below_drewN HX.out.2.2 _⟩⟩
    case rest =>
      obtain ⟨rfl, HZ⟩ := hcut
      obtain ⟨hm, hBx, hb, hs, hst, hy1, hp2, hgm, hy, hp1⟩ := HM.out
      obtain ⟨hz, hZ, hbel⟩ := HZ.out
      have m := hm.below hbel
      have hg0 := Goes.below (T := T) (hb.trans (hbel.mono hb.size))
      have hB := hBx.below hbel hBx.lt
      have hgl' : gm < wc.heap.size := by rw [hgm]; exact m.mlt
      have q1 : wc.cell? ⟨gm, 1, none⟩ = some (.pointer (some ⟨p2, 0, none⟩)) := by rw [hgm, hp2]; exact m.mcell 1 _ rfl (by decide) (by decide)
      have y0 : wc.cell? ⟨w.heap.size, 0, none⟩ = some (.int .i64 3) := (hB.cell 0).trans rfl
      have y3 : wc.cell? ⟨w.heap.size, 3, none⟩ = some (.int .i64 j) := (hB.cell 3).trans rfl
      have hTz : T z = 0 := hm.fits.zero hz
      have hcall2 : Hid (∀ W2, W2 = wc.drewN 1 → Calls Tryz.prog 158 #[.pointer (some ⟨p2, 0, none⟩), .int .i64 j, .int .i64 3] W2 fun e0 w' => e0 = .returned (.int .i64 0) ∧ ∃ T', Arr B T' w' y1 ∧ Goes T w T' w' ∧ Blk w' w.heap.size 30 #[.int .i64 3, .int .i64 sq, .int .i64 kd, .int .i64 j, .int .i64 b, .int .i64 c, .int .i64 d, .int .i64 e] ∧ Blk w' z 37 #[.int .i64 j, .int .i64 1, .int .i64 3, .int .i64 1, .int .i64 ln, .slice A n c']) := by
        show ∀ W2, _
        intro W2 hW2
        have hb2 : Below wc.heap.size wc W2 := by rw [hW2]; exact below_drewN (Below.refl _ _) 1
        have hm2 := m.below hb2
        rw [hp2]
        refine (vCommit hm2.smp hs hst).mono ?_
        rintro e0 w' ⟨he, h1, h2, h3⟩
        obtain ⟨m1, m2⟩ := hm2.turn (y := y1) 2 (by decide) h2 (by rw [hy1]; exact h1.mono fun _ h => .inl h) (by rw [hy1]; exact part_L _)
        exact ⟨he, _, m1, (hg0.trans (Goes.below hb2)).trans m2, (hB.below hb2 hB.lt).only h2 (by show ¬ T w.heap.size = 2; rw [hT0]; decide), (hZ.below hb2 hZ.lt).only h2 (by show ¬ T z = 2; rw [hTz]; decide)⟩
      clear hm hBx hb hz hZ hbel m hg0 hB hs hst hy1 hp2 hgm hy hp1
      go_upto_region 4 with (fail)
      go_still_tail 8, (by kernel_rfl)
      change wpList _ _ _ _ _ (wc.drewN 1)
      go_wp2_with fail
      refine (hcall2.out _ rfl).mono ?_
      rintro e0 w' ⟨rfl, T', hx, hy, hz1, hz2⟩
      have HX1 := hid (And.intro hx hy)
      have q3' : w'.cell? ⟨gm, 3, none⟩ = some (.pointer (some ⟨p4, 0, none⟩)) := by rw [← hyg.2.2.1, ← hyg.2.2.2.1]; exact hx.mcell 3 _ rfl (by decide) (by decide)
      have q3 : w'.cell? ⟨w.heap.size, 3, none⟩ = some (.int .i64 j) := (hz1.cell 3).trans rfl
      have q4 : w'.cell? ⟨z, 4, none⟩ = some (.int .i64 ln) := (hz2.cell 4).trans rfl
      have hgl2 : gm < w'.heap.size := by rw [← hyg.2.2.1]; exact hx.mlt
      clear hx hy hz1 hz2 q1 y0 y3 hgl'
      have d2 : decide (0 < (ln : Int)) = true := by simp; omega
      have hcall3 : Hid (∀ W2, W2 = w'.drewN 1 → Calls Tryz.prog 159 #[.pointer (some ⟨p4, 0, none⟩), .int .i64 j, .int .i64 ln, .int .i64 ln, .int .i64 0] W2 fun e0 w2 => RInt e0 ∧ ∃ T2, Arr B T2 w2 y ∧ Goes T w T2 w2) := by
        show ∀ W2, _
        intro W2 hW2
        have hb2 : Below w'.heap.size w' W2 := by rw [hW2]; exact below_drewN (Below.refl _ _) 1
        have hm2 := HX1.out.1.below hb2
        have hu := hm2.usg
        have hy := HM.out.2.2.2.2.2.2.2.2.1
        rw [hyg.2.2.2.2, hyg.2.2.2.1] at hu
        refine (uAdd_any hu (by omega) j ln ln 0).mono ?_
        rintro e0 w2 ⟨he, h1, h2⟩
        obtain ⟨m1, m2⟩ := (hm2.more (M := x.N + 1) (by rw [hyg.2.2.2.2]; omega)).turn (y := y) 4 (by decide) h2 (by rw [hy]; show Usg _ _ y1.p4 (x.N + 1); rw [hyg.2.2.2.1]; exact h1) (by rw [hy]; intro j _ S w h; exact h)
        exact ⟨he, _, m1, (HX1.out.2.trans (Goes.below hb2)).trans m2⟩
      go_upto_region 6 with (fail)
      go_still_tail 10, (by kernel_rfl)
      change wpList _ _ _ _ _ (w'.drewN 1)
      go_wp2_with fail
      refine (hcall3.out _ rfl).mono ?_
      rintro e0 w2 ⟨⟨t2, rfl⟩, T2, hx2, hy2⟩
      have HX2 := hid hx2
      have HY2 := hid hy2
      clear hx2 hy2 q3 q3' q4
      go_wp2_with fail
      go_ret2
      exact ⟨none, 0, 0, T2, rfl, rfl, holds_none _ _, HX2.out, HY2.out⟩
end
end Go.Proofs.YtopbojifllnckaaGreatDoor
namespace Go.Proofs.YtopbojifllnckaaGreatDoor
open Go.RowKit
attribute [local irreducible] wpQuiet
/-- A stripe whose fragment in place k stands on the spare. -/
def mvS (k : Nat) (s : SS) : SS := { s with xs := s.xs.set k 4 }
/-- The first i of the stripes are moved. -/
def mvL (k i : Nat) (L : List SS) : List SS := (L.take i).map (mvS k) ++ L.drop i
theorem mvL_zero (k : Nat) (L : List SS) : mvL k 0 L = L := by simp [mvL]
theorem mvL_all (k : Nat) (L : List SS) : mvL k L.length L = L.map (mvS k) := by simp [mvL]
theorem mvL_get (k i : Nat) (L : List SS) (hi : i < L.length) : (mvL k i L)[i]? = some L[i] := by
  unfold mvL
  rw [List.getElem?_append_right (by simp; omega)]
  simp [Nat.min_eq_left (Nat.le_of_lt hi), hi]
theorem mvL_set (k i : Nat) (L : List SS) (hi : i < L.length) : (mvL k i L).set i (mvS k L[i]) = mvL k (i + 1) L := by
  refine List.ext_getElem? fun j => ?_
  unfold mvL
  have hl : ((L.take i).map (mvS k)).length = i := by simp; omega
  have hl2 : ((L.take (i + 1)).map (mvS k)).length = i + 1 := by simp; omega
  by_cases e : j = i
  · subst e
    rw [List.getElem?_set_self (by rw [List.length_append, hl]; simp; omega), List.getElem?_append_left (by omega)]
    simp [hi]
  · rw [List.getElem?_set_ne (Ne.symm e)]
    rcases Nat.lt_or_ge j i with h1 | h1
    · rw [List.getElem?_append_left (by omega), List.getElem?_append_left (by omega)]
      simp [h1, show j < i + 1 by omega]
    · rw [List.getElem?_append_right (by omega), List.getElem?_append_right (by omega), hl, hl2, List.getElem?_drop, List.getElem?_drop]
      congr 1
      omega
/-- Numbers that lie in no block of the array. -/
def RowK (T : Nat → Nat) (w : World) (A : Option Addr) (J : List Int) : Prop := 0 < J.length → ∃ ad, A = some ad ∧ ad.block < w.heap.size ∧ T ad.block = 0 ∧ ∀ j u, (nums J)[j]? = some u → w.cell? (ad.add j) = some u
section
variable {B : Nat} {T : Nat → Nat} {w w' : World} {x : X}
theorem RowK.goes {T' : Nat → Nat} {A : Option Addr} {J : List Int} (h : RowK T w A J) (g : Goes T w T' w') : RowK T' w' A J := fun hn => by
  obtain ⟨ad, e, hb, hz, hc⟩ := h hn
  have hk := g.only.block ad.block hb (by simp [hz])
  exact ⟨ad, e, Nat.lt_of_lt_of_le hb g.only.size, g.free _ hb hz, fun j u hu => (World.cell?_of_block (by rw [block_add]; exact hk)).trans (hc j u hu)⟩
theorem RowK.own {A : Option Addr} {c n base : Nat} {J : List Int} (h : w.ownsRow base 3 1 (.slice A n c) n (nums J)) (hT : ∀ k, base ≤ k → T k = 0) : RowK T w A J := fun hn => by
  obtain ⟨h1, _, h3⟩ := own_holdsS h
  obtain ⟨ad, e, hb, hc⟩ := h1 (by rw [nums_length]; exact hn)
  exact ⟨ad, e, hb, hT _ (h3 ad e), hc⟩
/-- Where swap's loop stands. -/
def SwK (B : Nat) (T : Nat → Nat) (w : World) (y : X) (A : Option Addr) (J : List Int) (wr : World) : Prop :=
  ∃ T', Arr B T' wr y ∧ Goes T w T' wr ∧ RowK T' wr A J
set_option maxRecDepth 100000 in
set_option maxHeartbeats 1600000 in
theorem mswap (h : Arr B T w x) (k : Nat) (hk4 : k < 4) (hm1 : x.G.m = 1) (hh : x.G.hole = k) (hf : x.G.fil = false) (hep : 0 ≤ x.G.ep ∧ x.G.ep < 1000) (hL : x.L.length ≤ 100) (hall : ∀ s ∈ x.L, s.st ≠ 3 ∧ x.gone ∈ s.xs ∧ atI s.xs x.gone = k ∧ s.xs.length = 4 ∧ (4 : Int) ∉ s.xs) (cl sq kd b c d e : Int) :
    Calls Tryz.prog 98 #[.pointer (some ⟨x.gm, 0, none⟩), .agg #[.int .i64 cl, .int .i64 sq, .int .i64 kd, .int .i64 x.G.ep, .int .i64 b, .int .i64 c, .int .i64 d, .int .i64 e]] w
      (CEnd B T w { x with G := GS.put { x.G with m := 0, ep := x.G.ep + 1, fil := true } k 4, L := x.L.map (mvS k) } [4, x.G.ep + 1]) := by
  obtain ⟨y, hy⟩ : ∃ y : X, y = { x with G := GS.put { x.G with m := 0, ep := x.G.ep + 1, fil := true } k 4 } := ⟨_, rfl⟩
  have hyy : { x with G := GS.put { x.G with m := 0, ep := x.G.ep + 1, fil := true } k 4, L := x.L.map (mvS k) } = { y with L := mvL k x.L.length x.L } := by rw [hy, mvL_all]
  rw [hyy]
  clear hyy
  obtain ⟨gm, hgm⟩ : ∃ gm, gm = x.gm := ⟨_, rfl⟩
  obtain ⟨p1, hp1⟩ : ∃ p1, p1 = x.p1 := ⟨_, rfl⟩
  obtain ⟨p2, hp2⟩ : ∃ p2, p2 = x.p2 := ⟨_, rfl⟩
  obtain ⟨gn, hgn⟩ : ∃ gn, gn = x.gone := ⟨_, rfl⟩
  obtain ⟨n, hn⟩ : ∃ n, n = x.L.length := ⟨_, rfl⟩
  obtain ⟨a, ha⟩ : ∃ a, a = x.G.ep := ⟨_, rfl⟩
  obtain ⟨W, hW⟩ : ∃ W, W = w.alloc (.cells #[.int .i64 cl, .int .i64 sq, .int .i64 kd, .int .i64 a, .int .i64 b, .int .i64 c, .int .i64 d, .int .i64 e] 30) := ⟨_, rfl⟩
  have hb : Below w.heap.size w W := by rw [hW]; exact (Below.refl _ _).alloc (Nat.le_refl _) _
  have hBx : Blk W w.heap.size 30 #[.int .i64 cl, .int .i64 sq, .int .i64 kd, .int .i64 a, .int .i64 b, .int .i64 c, .int .i64 d, .int .i64 e] := by rw [hW]; exact Blk.new w 30 _
  have hm := h.below hb
  have hT0 : T w.heap.size = 0 := h.fits.zero (Nat.le_refl _)
  have b3 : W.cell? ⟨w.heap.size, 3, none⟩ = some (.int .i64 a) := (hBx.cell 3).trans rfl
  have hgl : gm < W.heap.size := by rw [hgm]; exact hm.mlt
  have hbl := hBx.lt
  have g0 : W.cell? ⟨gm, 0, none⟩ = some (.pointer (some ⟨p1, 0, none⟩)) := by rw [hgm, hp1]; exact hm.mcell 0 _ rfl (by decide) (by decide)
  have hyg : y.gm = gm ∧ y.p1 = p1 ∧ y.p2 = p2 ∧ y.gone = gn ∧ y.L = x.L ∧ y.G.ep = a + 1 := by
    rw [hy, hgm, hp1, hp2, hgn, ha]
    refine ⟨rfl, rfl, rfl, rfl, rfl, ?_⟩
    rcases (show k = 0 ∨ k = 1 ∨ k = 2 ∨ k = 3 by omega) with rfl | rfl | rfl | rfl <;> rfl
  have hcW : Hid (∀ W2, W2 = W.drew → Calls Tryz.prog 166 #[.pointer (some ⟨p1, 0, none⟩), .int .i64 a] W2 fun e0 w' => e0 = .returned (.tuple #[.int .i64 4, .int .i64 0]) ∧ (w'.cell? ⟨gm, 0, none⟩ = some (.pointer (some ⟨p1, 0, none⟩)) ∧ w'.cell? ⟨w.heap.size, 3, none⟩ = some (.int .i64 a)) ∧ ∃ T', Arr B T' w' y ∧ Goes T w T' w') := by
    show ∀ W2, _
    intro W2 hW2
    have hb2 : Below W.heap.size W W2 := by rw [hW2]; exact (Below.refl _ _).drew
    have hm2 := hm.below hb2
    rw [hp1, ha]
    refine (gSwap4 hm2.grp k hk4 hm1 hh hf hep).mono ?_
    rintro e0 w' ⟨he, h1, h2, h3⟩
    obtain ⟨m1, m2⟩ := hm2.turn (y := y) 1 (by decide) h2 (by rw [hy]; exact h1.mono fun _ h => .inl h) (by rw [hy]; exact part_G _)
    have hB3 := (hBx.below hb2 hBx.lt).only h2 (by show ¬ T w.heap.size = 1; rw [hT0]; decide)
    rw [← hp1, ← ha]
    exact ⟨he, ⟨by rw [← hyg.1, ← hyg.2.1]; exact m1.mcell 0 _ rfl (by decide) (by decide), (hB3.cell 3).trans rfl⟩, _, m1, (Goes.below (hb.trans (hb2.mono hb.size))).trans m2⟩
  rw [← hgm, ← ha]
  have HALL := hid (And.intro hall (And.intro hgn (And.intro hn hL)))
  clear hm hBx hb h hT0 hy hgm hp1 hp2 hgn ha hm1 hh hf hep hall hn hL
  go_enter Tryz.func98, Tryz.ntmps98
  go_upto_region 1 with (fail)
  rw [← hW]
  clear hW
  go_region_held3 (fun w' => w'.cell? ⟨gm, 0, none⟩ = some (.pointer (some ⟨p1, 0, none⟩)) ∧ w'.cell? ⟨w.heap.size, 3, none⟩ = some (.int .i64 a)) (first | (with_reducible exact hS) | (with_reducible exact ⟨g0, b3⟩) | go_keep) ((go_at_call 166; refine (hcW.out _ (by rfl)).mono ?_; rintro e0 w' ⟨rfl, hS, T', hm, hg⟩))
  clear hS hcW g0 b3 hgl hbl
  have q1 : w'.cell? ⟨gm, 1, none⟩ = some (.pointer (some ⟨p2, 0, none⟩)) := by rw [← hyg.1, ← hyg.2.2.1]; exact hm.mcell 1 _ rfl (by decide) (by decide)
  have q6 : w'.cell? ⟨gm, 6, none⟩ = some (.int .i64 gn) := by rw [← hyg.1, ← hyg.2.2.2.1]; exact hm.mcell 6 _ rfl (by decide) (by decide)
  have hgl' : gm < w'.heap.size := by rw [← hyg.1]; exact hm.mlt
  obtain ⟨w2, hw2⟩ : ∃ w2, w2 = w' := ⟨_, rfl⟩
  subst hw2
  have hcO : Hid (∀ W2, W2 = w2.drew → Calls Tryz.prog 167 #[.pointer (some ⟨p2, 0, none⟩), .int .i64 gn] W2 fun e0 w' => ∃ (A : Option Addr) (c' : Nat), e0 = .returned (.slice A n c') ∧ (w'.cell? ⟨gm, 1, none⟩ = some (.pointer (some ⟨p2, 0, none⟩)) ∧ w'.cell? ⟨gm, 6, none⟩ = some (.int .i64 gn)) ∧ n ≤ c' ∧ SwK B T w { y with L := mvL k 0 x.L } A (F.upto n) w') := by
    show ∀ W2, _
    intro W2 hW2
    have hb2 : Below w2.heap.size w2 W2 := by rw [hW2]; exact (Below.refl _ _).drew
    have hm2 := hm.below hb2
    have hsm := hm2.smp
    rw [hyg.2.2.1, hyg.2.2.2.2.1] at hsm
    refine (vOn hsm (hm2.inn (by decide)) (by have := HALL.out.2.2.2; omega) gn fun t ht => ⟨(HALL.out.1 t ht).1, by rw [HALL.out.2.1]; exact (HALL.out.1 t ht).2.1⟩).mono ?_
    rintro e0 w' ⟨v, rfl, hJ, hbb⟩
    rw [← HALL.out.2.2.1] at hJ
    obtain ⟨A, c', rfl⟩ := own_form hJ
    have m1 := hm2.below hbb
    refine ⟨A, c', rfl, ⟨by rw [← hyg.1, ← hyg.2.2.1]; exact m1.mcell 1 _ rfl (by decide) (by decide), by rw [← hyg.1, ← hyg.2.2.2.1]; exact m1.mcell 6 _ rfl (by decide) (by decide)⟩, (own_holdsS hJ).2.1, T', ?_, hg.trans ((Goes.below hb2).trans (Goes.below hbb)), RowK.own hJ fun k hk => hm2.fits.zero hk⟩
    rw [mvL_zero, ← hyg.2.2.2.2.1]
    exact m1
  clear hm hg
  go_upto_region 4 with (fail)
  go_region_held3 (fun w' => w'.cell? ⟨gm, 1, none⟩ = some (.pointer (some ⟨p2, 0, none⟩)) ∧ w'.cell? ⟨gm, 6, none⟩ = some (.int .i64 gn)) (first | (with_reducible exact hS) | (with_reducible exact ⟨q1, q6⟩) | go_keep) ((go_at_call 167; refine (hcO.out _ (by rfl)).mono ?_; rintro e0 w' ⟨A, c', rfl, hS, hnc, hI⟩))
  have HI := hid hI
  clear hS hI q1 q6 hgl' hcO
  have hnB : n ≤ 100 := by rw [HALL.out.2.2.1]; exact HALL.out.2.2.2
  go_wp2_with fail
  go_loopw [35] (fun v35 wr => ∃ i : Nat, i ≤ n ∧ v35 = .int .i64 i ∧ Hid (SwK B T w { y with L := mvL k i x.L } A (F.upto n) wr)) (fun v35 _ => n - (intOf v35).toNat)
  case atStart => exact ⟨0, Nat.zero_le _, rfl, HI.out⟩
  case round =>
    obtain ⟨i, hi, rfl, hI⟩ := hrel
    obtain ⟨T3, hm, hg, hJ⟩ := hI.out
    by_cases hin : i < n
    · obtain ⟨ad, rfl, hb1, hb2, hb3⟩ := hJ (by rw [F.upto_len]; omega)
      have e2 : wr.cell? (ad.add i) = some (.int .i64 i) := hb3 i _ (by simp [nums, F.upto, hin])
      have hiL : i < x.L.length := by have := HALL.out.2.2.1; omega
      have q1 : wr.cell? ⟨gm, 1, none⟩ = some (.pointer (some ⟨p2, 0, none⟩)) := by rw [← hyg.1, ← hyg.2.2.1]; exact hm.mcell 1 _ rfl (by decide) (by decide)
      have hsm := hm.smp
      have hc0 := vGet hsm (mvL_get k i x.L hiL)
      rw [show ({ y with L := mvL k i x.L } : X).p2 = p2 from hyg.2.2.1] at hc0
      have hc := hid hc0
      obtain ⟨s, hs⟩ : ∃ s, s = x.L[i] := ⟨_, rfl⟩
      have hsa := hid (HALL.out.1 s (by rw [hs]; exact List.getElem_mem hiL))
      have HM := hid (And.intro hm (And.intro hg (And.intro hJ hs)))
      rw [← hs] at hc
      have hgl' : gm < wr.heap.size := by rw [← hyg.1]; exact hm.mlt
      have h0k : (0 : Int) ≤ (i : Int) := by omega
      have hkB : i < 100000 := by omega
      have hkn2 : (i : Int) < (n : Int) := by omega
      clear hm hg hJ hb1 hb2 hb3 hI hsm hc0 hs
      go_wp2_with fail
      refine hc.out.mono ?_
      rintro e0 w1 ⟨q, c2, rfl, hx4, hbb⟩
      have HB := hid (And.intro hbb hx4)
      have hw1 := hbb.size
      clear hbb hx4 q1 e2 hc
      go_upto_region 8 with (fail)
      obtain ⟨w2, hw2⟩ : ∃ w2, w2 = w1.alloc (.cells #[.int .i64 i, .int .i64 s.st, .int .i64 3, .int .i64 1, .int .i64 s.ln, .slice (some ⟨q, 0, none⟩) 4 c2] 37) := ⟨_, rfl⟩
      rw [← hw2]
      have hb12 : Below w1.heap.size w1 w2 := by rw [hw2]; exact (Below.refl _ _).alloc (Nat.le_refl _) _
      have hbz : Blk w2 w1.heap.size 37 #[.int .i64 i, .int .i64 s.st, .int .i64 3, .int .i64 1, .int .i64 s.ln, .slice (some ⟨q, 0, none⟩) 4 c2] := by rw [hw2]; exact Blk.new w1 37 _
      obtain ⟨hm, hg, hJ, hs⟩ := HM.out
      have hb2 : Below wr.heap.size wr w2 := HB.out.1.trans (hb12.mono hw1)
      have hm2 := hm.below hb2
      have hg2 := hg.trans (Goes.below hb2)
      have hJ2 := hJ.goes (Goes.below (T := T3) hb2)
      have q1 : w2.cell? ⟨gm, 1, none⟩ = some (.pointer (some ⟨p2, 0, none⟩)) := by rw [← hyg.1, ← hyg.2.2.1]; exact hm2.mcell 1 _ rfl (by decide) (by decide)
      have q6 : w2.cell? ⟨gm, 6, none⟩ = some (.int .i64 gn) := by rw [← hyg.1, ← hyg.2.2.2.1]; exact hm2.mcell 6 _ rfl (by decide) (by decide)
      have z5 : w2.cell? ⟨w1.heap.size, 5, none⟩ = some (.slice (some ⟨q, 0, none⟩) 4 c2) := (hbz.cell 5).trans rfl
      have hcX : Hid (∀ W2, W2 = w2.drew → Calls Tryz.prog 169 #[.slice (some ⟨q, 0, none⟩) 4 c2, .int .i64 gn] W2 fun e0 w' => e0 = .returned (.int .i64 k) ∧ W2 = w') := by
        show ∀ W2, _
        intro W2 hW2
        have hb3 : Below w2.heap.size w2 W2 := by rw [hW2]; exact (Below.refl _ _).drew
        have hh2 : Holds W2 w1.heap.size (some ⟨q, 0, none⟩) (nums s.xs) := ((own_holdsS HB.out.2).1.below hb12).below (hb3.mono hb12.size)
        have := idxAt_any (c := c2) gn (hid (IntsAt.of_holds hh2)) hsa.out.2.2.2.1 (by decide)
        rw [HALL.out.2.1, hsa.out.2.2.1] at this
        rw [HALL.out.2.1]
        exact this
      have hcM : Hid (∀ W2, W2 = w2.drew → Calls Tryz.prog 168 #[.pointer (some ⟨p2, 0, none⟩), .int .i64 i, .int .i64 k, .int .i64 4] W2 fun e0 w' => e0 = .returned (.int .i64 0) ∧ (w'.cell? ⟨gm, 1, none⟩ = some (.pointer (some ⟨p2, 0, none⟩)) ∧ w'.cell? ⟨gm, 6, none⟩ = some (.int .i64 gn) ∧ w'.cell? ⟨w1.heap.size, 5, none⟩ = some (.slice (some ⟨q, 0, none⟩) 4 c2)) ∧ Hid (SwK B T w { y with L := mvL k (i + 1) x.L } (some ad) (F.upto n) w')) := by
        show ∀ W2, _
        intro W2 hW2
        have hb3 : Below w2.heap.size w2 W2 := by rw [hW2]; exact (Below.refl _ _).drew
        have hm3 := hm2.below hb3
        have hsm := hm3.smp
        have hc1 := vMove hsm (mvL_get k i x.L hiL) k 4 hk4 ⟨by omega, by omega⟩ (by rw [← hs]; exact hsa.out.2.2.2.2) (by rw [← hs]; exact hsa.out.1)
        rw [show ({ y with L := mvL k i x.L } : X).p2 = p2 from hyg.2.2.1] at hc1
        refine hc1.mono ?_
        rintro e0 w' ⟨he, h1, h2, h3⟩
        obtain ⟨m1, m2⟩ := hm3.turn (y := { y with L := mvL k (i + 1) x.L }) 2 (by decide) h2 (by
          show SmpV _ w' y.p2 (mvL k (i + 1) x.L)
          rw [hyg.2.2.1, ← mvL_set k i x.L hiL]
          exact h1.mono fun _ h => .inl h) (part_L (x := { y with L := mvL k i x.L }) _)
        have hz3 := (hbz.below hb3 hbz.lt).only h2 (by show ¬ T3 w1.heap.size = 2; rw [hm.fits.zero hw1]; decide)
        exact ⟨he, ⟨by rw [← hyg.1, ← hyg.2.2.1]; exact m1.mcell 1 _ rfl (by decide) (by decide), by rw [← hyg.1, ← hyg.2.2.2.1]; exact m1.mcell 6 _ rfl (by decide) (by decide), (hz3.cell 5).trans rfl⟩, _, m1, (hg2.trans (Goes.below hb3)).trans m2, (hJ2.goes (Goes.below (T := T3) hb3)).goes m2⟩
      clear hw2 hb12 hbz hm hg hJ hb2 hm2 hg2 hJ2 HB hw1 HM HI hgl' hs hsa
      go_region_held3 (fun w' => w'.cell? ⟨gm, 1, none⟩ = some (.pointer (some ⟨p2, 0, none⟩)) ∧ w'.cell? ⟨gm, 6, none⟩ = some (.int .i64 gn) ∧ w'.cell? ⟨w1.heap.size, 5, none⟩ = some (.slice (some ⟨q, 0, none⟩) 4 c2)) (first | (with_reducible exact hS) | (with_reducible exact ⟨q1, q6, z5⟩) | go_keep) ((first
          | (go_at_call 169; refine (hcX.out _ (by rfl)).mono ?_; rintro e0 w' ⟨rfl, rfl⟩)
          | (go_at_call 168; refine (hcM.out _ (by rfl)).mono ?_; rintro e0 w' ⟨rfl, hS, hI⟩)))
      clear hS q1 q6 z5 hcX hcM
      go_wp2_with fail
      go_roundw
      case rel => exact ⟨i + 1, by omega, by go_num, hI⟩
      case measure => simp [intOf]; omega
    · obtain rfl : i = n := by omega
      have q0 : wr.cell? ⟨gm, 0, none⟩ = some (.pointer (some ⟨p1, 0, none⟩)) := by rw [← hyg.1, ← hyg.2.1]; exact hm.mcell 0 _ rfl (by decide) (by decide)
      have hgl' : gm < wr.heap.size := by rw [← hyg.1]; exact hm.mlt
      rw [HALL.out.2.2.1] at hm
      have HM := hid (And.intro hm hg)
      have hep := gEpoch4 hm.grp
      rw [show ({ y with L := mvL k x.L.length x.L } : X).p1 = p1 from hyg.2.1, show ({ y with L := mvL k x.L.length x.L } : X).G.ep = a + 1 from hyg.2.2.2.2.2] at hep
      have HE := hid hep
      clear hm hg hJ hI hep
      go_wp2_with fail
      refine HE.out.mono ?_
      rintro e0 w3 ⟨rfl, rfl⟩
      go_wp2_with fail
      go_ret2
      have hbb := (Below.refl wr.heap.size wr).alloc (Nat.le_refl _) (.cells #[.int .i64 4, .int .i64 (a + 1)] 3)
      exact ⟨_, 2, 2, T3, rfl, rfl, holds_made _ [4, a + 1] 3 _ rfl, HM.out.1.below hbb, HM.out.2.trans (Goes.below hbb)⟩
end
end Go.Proofs.YtopbojifllnckaaGreatDoor
