/- The manager of an array: Do, Epoch, Stripe, Stripes. The manager of an array: Epoch, Stripe, Stripes. array: server, Fragment, Set, Most. -/
import Derived.Test.YtopbojifllnckaaGreatDoorG34
namespace Go.Proofs.YtopbojifllnckaaGreatDoor
open Go.RowKit
attribute [local irreducible] wpQuiet
section
variable {B : Nat} {T : Nat → Nat} {w w' : World} {x : X}
theorem kind_1 (w : World) : Calls Tryz.prog 41 #[.int .i64 1] w fun e w' => e = .returned (.func (.func 93) #[] #[]) ∧ w = w' := by
  go_enter Tryz.func41, Tryz.ntmps41
  go_wp2_with fail
  go_ret
  exact ⟨rfl, rfl⟩
theorem kind_2 (w : World) : Calls Tryz.prog 41 #[.int .i64 2] w fun e w' => e = .returned (.func (.func 94) #[] #[]) ∧ w = w' := by
  go_enter Tryz.func41, Tryz.ntmps41
  go_wp2_with fail
  go_ret
  exact ⟨rfl, rfl⟩
theorem kind_5 (w : World) : Calls Tryz.prog 41 #[.int .i64 5] w fun e w' => e = .returned (.func (.func 97) #[] #[]) ∧ w = w' := by
  go_enter Tryz.func41, Tryz.ntmps41
  go_wp2_with fail
  go_ret
  exact ⟨rfl, rfl⟩
theorem kind_6 (w : World) : Calls Tryz.prog 41 #[.int .i64 6] w fun e w' => e = .returned (.func (.func 98) #[] #[]) ∧ w = w' := by
  go_enter Tryz.func41, Tryz.ntmps41
  go_wp2_with fail
  go_ret
  exact ⟨rfl, rfl⟩
theorem kind_7 (w : World) : Calls Tryz.prog 41 #[.int .i64 7] w fun e w' => e = .returned (.func (.func 99) #[] #[]) ∧ w = w' := by
  go_enter Tryz.func41, Tryz.ntmps41
  go_wp2_with fail
  go_ret
  exact ⟨rfl, rfl⟩
/-- Behind a command's function. -/
def MMid (B : Nat) (T : Nat → Nat) (w : World) (y : X) (l : List Int) (bx : Nat) (cs : Array Value) (A : Option Addr) (n : Nat) (W : World) : Prop :=
  ∃ T' : Nat → Nat, l.length = n ∧ Holds W W.heap.size A (nums l) ∧ Arr B T' W y ∧ Goes T w T' W ∧ Blk W bx 30 cs ∧ T' bx = 0
/-- Behind the answer. -/
def MFin (B : Nat) (T : Nat → Nat) (w : World) (y : X) (bx : Nat) (cs : Array Value) (W : World) : Prop :=
  ∃ T' : Nat → Nat, Arr B T' W y ∧ Goes T w T' W ∧ Blk W bx 30 cs ∧ T' bx = 0
set_option maxRecDepth 100000 in
set_option maxHeartbeats 3200000 in
theorem mDo {x1 y : X} {l : List Int} (h : Arr B T w x) (hN : x.N ≤ 10000) (cl sq kd a b c d e : Int) (hx : Cmd.OK ⟨cl, sq, kd, a, b, c, d, e⟩) (hi : Cmd.In ⟨cl, sq, kd, a, b, c, d, e⟩) (hf : ∀ k, x.f k ≤ 2147483648) (hfs : x.f cl ≤ sq)
    (hx1 : x1 = { x with f := fun k => if k = cl then sq + 1 else x.f k, N := x.N + 1 }) (g : Nat) (hgn : g = 93 ∨ g = 94 ∨ g = 97 ∨ g = 98 ∨ g = 99)
    (hg1 : ∀ w, Calls Tryz.prog 41 #[.int .i64 kd] w fun e w' => e = .returned (.func (.func g) #[] #[]) ∧ w = w')
    (hg2 : ∀ T W2, Arr B T W2 x1 → Calls Tryz.prog g #[.pointer (some ⟨x.gm, 0, none⟩), .agg #[.int .i64 cl, .int .i64 sq, .int .i64 kd, .int .i64 a, .int .i64 b, .int .i64 c, .int .i64 d, .int .i64 e]] W2 (CEnd B T W2 y l)) (hy : y.gm = x.gm ∧ y.p6 = x.p6 ∧ y.f = x1.f) (hl : ∀ n ∈ l, I64 n) (hl3 : l.length ≤ 3) :
    Calls Tryz.prog 9 #[.pointer (some ⟨x.gm, 0, none⟩), .string (encC ⟨cl, sq, kd, a, b, c, d, e⟩)] w fun e0 w' => e0 = .returned (.string (ansB l 0)) ∧ ∃ T', Arr B T' w' y ∧ Goes T w T' w' := by
  have hdec : Hid (Calls Tryz.prog 39 #[.string (encC ⟨cl, sq, kd, a, b, c, d, e⟩)] w fun e0 w' => e0 = .returned (.tuple #[.agg #[.int .i64 cl, .int .i64 sq, .int .i64 kd, .int .i64 a, .int .i64 b, .int .i64 c, .int .i64 d, .int .i64 e], .int .i64 0]) ∧ Below w.heap.size w w') := Decode_ok ⟨cl, sq, kd, a, b, c, d, e⟩ hx hi w
  obtain ⟨s, hs⟩ : ∃ s, s = encC ⟨cl, sq, kd, a, b, c, d, e⟩ := ⟨_, rfl⟩
  rw [← hs] at hdec ⊢
  clear hs
  obtain ⟨f', hf'⟩ : ∃ f' : Int → Int, f' = fun k => if k = cl then sq + 1 else x.f k := ⟨_, rfl⟩
  rw [← hf'] at hx1
  have hfa : ∀ k, f' k ≤ 2147483648 := fun k => by
    rw [hf']
    have h1 := hx.s1
    have h2 := hf k
    simp only at h1 ⊢
    split <;> omega
  have hfb : sq < f' cl := by rw [hf']; simp only [if_true]; omega
  obtain ⟨gm, hgm⟩ : ∃ gm, gm = x.gm := ⟨_, rfl⟩
  obtain ⟨p6, hp6⟩ : ∃ p6, p6 = x.p6 := ⟨_, rfl⟩
  have hyg : y.gm = gm ∧ y.p6 = p6 ∧ y.f = f' ∧ x1.gm = gm ∧ x1.p6 = p6 := by rw [hgm, hp6, hy.1, hy.2.1, hy.2.2, hx1]; exact ⟨rfl, rfl, rfl, rfl, rfl⟩
  have HF := hid (And.intro hf (And.intro hfs (And.intro hfa hfb)))
  have HH := hid (And.intro h (And.intro hx1 (And.intro hp6 hgm)))
  have HX := hid (And.intro hx hi)
  have HGM := hid hgm
  have HG := hid (And.intro hg1 (And.intro hg2 (And.intro hl hl3)))
  obtain ⟨s2, hs2⟩ : ∃ s2, s2 = ansB l 0 := ⟨_, rfl⟩
  rw [← hgm, ← hs2]
  have HS2 := hid hs2
  clear hs2
  clear h hx hi hf hfs hfa hfb hg1 hg2 hl hl3 hx1 hy hp6 hgm
  go_enter Tryz.func9, Tryz.ntmps9
  go_wp2_with fail
  refine hdec.out.mono ?_
  rintro e0 w1 ⟨rfl, hb1⟩
  have HB := hid hb1
  clear hb1 hdec
  go_upto_region 6 with (fail)
  obtain ⟨W, hW⟩ : ∃ W, W = w1.alloc (.cells #[.int .i64 cl, .int .i64 sq, .int .i64 kd, .int .i64 a, .int .i64 b, .int .i64 c, .int .i64 d, .int .i64 e] 30) := ⟨_, rfl⟩
  rw [← hW]
  obtain ⟨bx, hbx⟩ : ∃ bx, bx = w1.heap.size := ⟨_, rfl⟩
  rw [← hbx]
  have hb2 : Below w.heap.size w W := by rw [hW]; exact HB.out.alloc HB.out.size _
  have hB : Blk W bx 30 #[.int .i64 cl, .int .i64 sq, .int .i64 kd, .int .i64 a, .int .i64 b, .int .i64 c, .int .i64 d, .int .i64 e] := by rw [hW, hbx]; exact Blk.new w1 30 _
  have hm := HH.out.1.below hb2
  have hTb : T bx = 0 := HH.out.1.fits.zero (by rw [hbx]; exact HB.out.size)
  have hg0 := Goes.below (T := T) hb2
  have q5 : W.cell? ⟨gm, 5, none⟩ = some (.pointer (some ⟨p6, 0, none⟩)) := by rw [HH.out.2.2.2, HH.out.2.2.1]; exact hm.mcell 5 _ rfl (by decide) (by decide)
  have y0 : W.cell? ⟨bx, 0, none⟩ = some (.int .i64 cl) := (hB.cell 0).trans rfl
  have y1 : W.cell? ⟨bx, 1, none⟩ = some (.int .i64 sq) := (hB.cell 1).trans rfl
  have hgl : gm < W.heap.size := by rw [HH.out.2.2.2]; exact hm.mlt
  have hcT : Hid (∀ W2, W2 = W.drew → Calls Tryz.prog 40 #[.pointer (some ⟨p6, 0, none⟩), .int .i64 cl, .int .i64 sq] W2 fun e0 w' => e0 = .returned (.tuple #[.int .i64 1, .string ⟨#[]⟩]) ∧ (w'.cell? ⟨gm, 5, none⟩ = some (.pointer (some ⟨p6, 0, none⟩)) ∧ w'.cell? ⟨bx, 0, none⟩ = some (.int .i64 cl) ∧ w'.cell? ⟨bx, 1, none⟩ = some (.int .i64 sq)) ∧ Hid (∃ T', Arr B T' w' x1 ∧ Goes T w T' w' ∧ Blk w' bx 30 #[.int .i64 cl, .int .i64 sq, .int .i64 kd, .int .i64 a, .int .i64 b, .int .i64 c, .int .i64 d, .int .i64 e] ∧ T' bx = 0)) := by
    show ∀ W2, _
    intro W2 hW2
    have hb3 : Below W.heap.size W W2 := by rw [hW2]; exact (Below.refl _ _).drew
    have hm2 := hm.below hb3
    have c0 : 0 ≤ cl := HX.out.1.c0
    have c1 : cl < 16 := HX.out.1.c1
    rw [HH.out.2.2.1]
    refine (Take_any hm2.rep HF.out.1 c0 (by omega) HX.out.1.s0 HX.out.1.s1 HF.out.2.1 (by omega)).mono ?_
    rintro e0 w' ⟨he, h1, h2⟩
    simp only at h1
    rw [← hf'] at h1
    obtain ⟨m1, m2⟩ := (hm2.more (Nat.le_succ x.N)).turn (y := x1) 6 (by decide) h2 (by rw [HH.out.2.1]; exact h1) (by rw [HH.out.2.1]; exact part_f (x := { x with N := x.N + 1 }) _)
    have hB3 := (hB.below hb3 hB.lt).only h2 (by show ¬ T bx = 6; rw [hTb]; decide)
    exact ⟨he, ⟨by rw [← hyg.2.2.2.1, ← HH.out.2.2.1, ← hyg.2.2.2.2]; exact m1.mcell 5 _ rfl (by decide) (by decide), (hB3.cell 0).trans rfl, (hB3.cell 1).trans rfl⟩, _, m1, (hg0.trans (Goes.below hb3)).trans m2, hB3, m2.free bx (hB.below hb3 hB.lt).lt hTb⟩
  clear hW hbx hb2 hB hm hTb hg0 hf' HB HH
  go_region_held3 (fun w' => w'.cell? ⟨gm, 5, none⟩ = some (.pointer (some ⟨p6, 0, none⟩)) ∧ w'.cell? ⟨bx, 0, none⟩ = some (.int .i64 cl) ∧ w'.cell? ⟨bx, 1, none⟩ = some (.int .i64 sq)) (first | (with_reducible exact hS) | (with_reducible exact ⟨q5, y0, y1⟩) | go_keep) ((go_at_call 40; refine (hcT.out _ (by rfl)).mono ?_; rintro e0 w2 ⟨rfl, hS, hI⟩))
  clear hS hcT q5 y0 y1 hgl
  go_upto_region 12 with (fail)
  obtain ⟨T1, hm, hg, hB, hTb⟩ := hI.out
  have y0 : w2.cell? ⟨bx, 0, none⟩ = some (.int .i64 cl) := (hB.cell 0).trans rfl
  have y1 : w2.cell? ⟨bx, 1, none⟩ = some (.int .i64 sq) := (hB.cell 1).trans rfl
  have y2 : w2.cell? ⟨bx, 2, none⟩ = some (.int .i64 kd) := (hB.cell 2).trans rfl
  have y3 : w2.cell? ⟨bx, 3, none⟩ = some (.int .i64 a) := (hB.cell 3).trans rfl
  have y4 : w2.cell? ⟨bx, 4, none⟩ = some (.int .i64 b) := (hB.cell 4).trans rfl
  have y5 : w2.cell? ⟨bx, 5, none⟩ = some (.int .i64 c) := (hB.cell 5).trans rfl
  have y6 : w2.cell? ⟨bx, 6, none⟩ = some (.int .i64 d) := (hB.cell 6).trans rfl
  have y7 : w2.cell? ⟨bx, 7, none⟩ = some (.int .i64 e) := (hB.cell 7).trans rfl
  have hcK : Hid (∀ W2, W2 = w2.drew → Calls Tryz.prog 41 #[.int .i64 kd] W2 fun e0 w' => e0 = .returned (.func (.func g) #[] #[]) ∧ W2 = w') := fun W2 _ => HG.out.1 W2
  have hcG : Hid (∀ W2, W2 = w2.drew → Calls Tryz.prog g #[.pointer (some ⟨gm, 0, none⟩), .agg #[.int .i64 cl, .int .i64 sq, .int .i64 kd, .int .i64 a, .int .i64 b, .int .i64 c, .int .i64 d, .int .i64 e]] W2 fun e0 w' => ∃ A n c', e0 = .returned (.tuple #[.slice A n c', .int .i64 0]) ∧ (w'.cell? ⟨bx, 0, none⟩ = some (.int .i64 cl) ∧ w'.cell? ⟨bx, 1, none⟩ = some (.int .i64 sq) ∧ w'.cell? ⟨bx, 2, none⟩ = some (.int .i64 kd) ∧ w'.cell? ⟨bx, 3, none⟩ = some (.int .i64 a) ∧ w'.cell? ⟨bx, 4, none⟩ = some (.int .i64 b) ∧ w'.cell? ⟨bx, 5, none⟩ = some (.int .i64 c) ∧ w'.cell? ⟨bx, 6, none⟩ = some (.int .i64 d) ∧ w'.cell? ⟨bx, 7, none⟩ = some (.int .i64 e)) ∧ Hid (MMid B T w y l bx #[.int .i64 cl, .int .i64 sq, .int .i64 kd, .int .i64 a, .int .i64 b, .int .i64 c, .int .i64 d, .int .i64 e] A n w')) := by
    show ∀ W2, _
    intro W2 hW2
    have hb3 : Below w2.heap.size w2 W2 := by rw [hW2]; exact (Below.refl _ _).drew
    have hcc := HG.out.2.1 T1 W2 (hm.below hb3)
    rw [← HGM.out] at hcc
    refine hcc.mono ?_
    rintro e0 w' ⟨A, n, c', T', he, h1, h2, h6, h7⟩
    have hB2 := hB.below hb3 hB.lt
    have hB3 := hB2.only h7.only (by show ¬ (T1 bx ≠ 0); rw [hTb]; decide)
    exact ⟨A, n, c', he, ⟨(hB3.cell 0).trans rfl, (hB3.cell 1).trans rfl, (hB3.cell 2).trans rfl, (hB3.cell 3).trans rfl, (hB3.cell 4).trans rfl, (hB3.cell 5).trans rfl, (hB3.cell 6).trans rfl, (hB3.cell 7).trans rfl⟩, T', h1, h2, h6, (hg.trans (Goes.below hb3)).trans h7, hB3, h7.free bx hB2.lt hTb⟩
  have hcA : Hid (∀ W2 A n c', MMid B T w y l bx #[.int .i64 cl, .int .i64 sq, .int .i64 kd, .int .i64 a, .int .i64 b, .int .i64 c, .int .i64 d, .int .i64 e] A n W2 → Calls Tryz.prog 38 #[.slice A n c', .int .i64 0] W2 fun e0 w' => e0 = .returned (.string s2) ∧ (w'.cell? ⟨bx, 0, none⟩ = some (.int .i64 cl) ∧ w'.cell? ⟨bx, 1, none⟩ = some (.int .i64 sq) ∧ w'.cell? ⟨bx, 2, none⟩ = some (.int .i64 kd) ∧ w'.cell? ⟨bx, 3, none⟩ = some (.int .i64 a) ∧ w'.cell? ⟨bx, 4, none⟩ = some (.int .i64 b) ∧ w'.cell? ⟨bx, 5, none⟩ = some (.int .i64 c) ∧ w'.cell? ⟨bx, 6, none⟩ = some (.int .i64 d) ∧ w'.cell? ⟨bx, 7, none⟩ = some (.int .i64 e)) ∧ Hid (MFin B T w y bx #[.int .i64 cl, .int .i64 sq, .int .i64 kd, .int .i64 a, .int .i64 b, .int .i64 c, .int .i64 d, .int .i64 e] w')) := by
    show ∀ W2, _
    rintro W2 A n c' ⟨T', h1, h2, h6, h7, h9, h10⟩
    have hl3 := HG.out.2.2.2
    rw [HS2.out]
    refine (answer_any W2 0 (by decide) h1 h2 (Nat.le_refl _) HG.out.2.2.1 (by omega)).mono ?_
    rintro e0 w' ⟨he, hb3⟩
    have hB3 := h9.below hb3 h9.lt
    exact ⟨he, ⟨(hB3.cell 0).trans rfl, (hB3.cell 1).trans rfl, (hB3.cell 2).trans rfl, (hB3.cell 3).trans rfl, (hB3.cell 4).trans rfl, (hB3.cell 5).trans rfl, (hB3.cell 6).trans rfl, (hB3.cell 7).trans rfl⟩, T', h6.below hb3, h7.trans (Goes.below hb3), hB3, h10⟩
  clear hI hm hg hB hTb HG
  go_cut [9] (fun s9 wx => s9 = .string s2 ∧ Hid (MFin B T w y bx #[.int .i64 cl, .int .i64 sq, .int .i64 kd, .int .i64 a, .int .i64 b, .int .i64 c, .int .i64 d, .int .i64 e] wx))
  case first =>
    rcases hgn with rfl | rfl | rfl | rfl | rfl
    all_goals
      go_region_held3 (fun w' => w'.cell? ⟨bx, 0, none⟩ = some (.int .i64 cl) ∧ w'.cell? ⟨bx, 1, none⟩ = some (.int .i64 sq) ∧ w'.cell? ⟨bx, 2, none⟩ = some (.int .i64 kd) ∧ w'.cell? ⟨bx, 3, none⟩ = some (.int .i64 a) ∧ w'.cell? ⟨bx, 4, none⟩ = some (.int .i64 b) ∧ w'.cell? ⟨bx, 5, none⟩ = some (.int .i64 c) ∧ w'.cell? ⟨bx, 6, none⟩ = some (.int .i64 d) ∧ w'.cell? ⟨bx, 7, none⟩ = some (.int .i64 e)) (first | (with_reducible exact hS) | (with_reducible exact ⟨y0, y1, y2, y3, y4, y5, y6, y7⟩) | go_keep) ((first
        | (go_at_call 41; refine (hcK.out _ (by rfl)).mono ?_; rintro e0 w' ⟨rfl, rfl⟩)
        | (go_at_call 38; refine (hcA.out _ _ _ _ hI.out).mono ?_; rintro e0 w' ⟨rfl, hS, hJ⟩)
        | ((first | go_at_call 93 | go_at_call 94 | go_at_call 97 | go_at_call 98 | go_at_call 99); refine (hcG.out _ (by rfl)).mono ?_; rintro e0 w' ⟨A, n, c', rfl, hS, hI⟩)))
      go_wp2_with fail
      go_meet
      exact ⟨rfl, hJ⟩
  case rest =>
    obtain ⟨rfl, hJ⟩ := hcut
    obtain ⟨T', hm, hg, hB, hTb⟩ := hJ.out
    clear y0 y1 y2 y3 y4 y5 y6 y7 hcK hcG hcA hJ
    have q5 : wc.cell? ⟨gm, 5, none⟩ = some (.pointer (some ⟨p6, 0, none⟩)) := by rw [← hyg.1, ← hyg.2.1]; exact hm.mcell 5 _ rfl (by decide) (by decide)
    have y0 : wc.cell? ⟨bx, 0, none⟩ = some (.int .i64 cl) := (hB.cell 0).trans rfl
    have y1 : wc.cell? ⟨bx, 1, none⟩ = some (.int .i64 sq) := (hB.cell 1).trans rfl
    have hgl : gm < wc.heap.size := by rw [← hyg.1]; exact hm.mlt
    have hcP : Hid (∀ W2, W2 = wc.drewN 1 → Calls Tryz.prog 42 #[.pointer (some ⟨p6, 0, none⟩), .int .i64 cl, .int .i64 sq, .string s2] W2 fun e0 w' => RBool e0 ∧ Hid (∃ T2, Arr B T2 w' y ∧ Goes T w T2 w')) := by
      show ∀ W2, _
      intro W2 hW2
      have hb3 : Below wc.heap.size wc W2 := by rw [hW2]; exact below_drewN (Below.refl _ _) 1
      have hm2 := hm.below hb3
      have c0 : 0 ≤ cl := HX.out.1.c0
      have c1 : cl < 16 := HX.out.1.c1
      have hr := hm2.rep
      rw [hyg.2.1, hyg.2.2.1] at hr
      refine (Put_any hr HF.out.2.2.1 s2 c0 (by omega) HX.out.1.s0 HF.out.2.2.2).mono ?_
      rintro e0 w' ⟨he, k1, k2⟩
      obtain ⟨m1, m2⟩ := hm2.turn (y := y) 6 (by decide) k2 (by show Rep _ _ y.p6 y.N y.f; rw [hyg.2.1, hyg.2.2.1]; exact k1.mono (fun _ h => .inl h) (Nat.le_refl _)) (fun j _ S w h => h)
      exact ⟨he, _, m1, (hg.trans (Goes.below hb3)).trans m2⟩
    clear hm hg hB hTb
    go_upto_region 13 with (fail)
    go_still_tail 9, (by kernel_rfl)
    change wpList _ _ _ _ _ (wc.drewN 1)
    go_wp2_with fail
    refine (hcP.out _ rfl).mono ?_
    rintro e0 w' ⟨⟨b2, rfl⟩, hI⟩
    go_wp2_with fail
    go_ret
    exact ⟨rfl, hI.out⟩
end
end Go.Proofs.YtopbojifllnckaaGreatDoor
namespace Go.Proofs.YtopbojifllnckaaGreatDoor
open Go.RowKit
attribute [local irreducible] wpQuiet
section
variable {B : Nat} {T : Nat → Nat} {w w' : World} {x : X}
theorem aEpoch (h : Arr B T w x) : Calls Tryz.prog 10 #[.pointer (some ⟨x.gm, 0, none⟩)] w fun e w' => e = .returned (.int .i64 x.G.ep) ∧ w = w' := by
  have g0 := h.mcell 0 _ rfl (by decide) (by decide)
  have hgl := h.mlt
  have hc := hid (gEpoch4 h.grp)
  generalize x.gm = gm at g0 hgl
  generalize x.G.ep = ep at hc
  clear h
  go_enter Tryz.func10, Tryz.ntmps10
  go_wp2_with fail
  refine hc.out.mono ?_
  rintro e w' ⟨rfl, rfl⟩
  go_wp2_with fail
  go_ret
  exact ⟨rfl, rfl⟩
set_option maxRecDepth 100000 in
set_option maxHeartbeats 1600000 in
theorem aStripe (h : Arr B T w x) {j : Nat} {t : SS} (hj : x.L[j]? = some t) : Calls Tryz.prog 11 #[.pointer (some ⟨x.gm, 0, none⟩), .int .i64 j] w fun e w' => ∃ q c : Nat,
    e = .returned (.tuple #[.agg #[.int .i64 j, .int .i64 t.st, .int .i64 3, .int .i64 1, .int .i64 t.ln, .slice (some ⟨q, 0, none⟩) 4 c], .bool true]) ∧ w'.ownsRow w.heap.size 3 1 (.slice (some ⟨q, 0, none⟩) 4 c) 4 (nums t.xs) ∧ Below w.heap.size w w' := by
  obtain ⟨W, hW⟩ : ∃ W, W = w.alloc (.cells #[.int .i64 0, .int .i64 0, .int .i64 0, .int .i64 0, .int .i64 0, .slice none 0 0] 37) := ⟨_, rfl⟩
  have hb : Below w.heap.size w W := by rw [hW]; exact (Below.refl _ _).alloc (Nat.le_refl _) _
  have hB : Blk W w.heap.size 37 #[.int .i64 0, .int .i64 0, .int .i64 0, .int .i64 0, .int .i64 0, .slice none 0 0] := by rw [hW]; exact Blk.new w 37 _
  have hm := h.below hb
  have g1 := hm.mcell 1 _ rfl (by decide) (by decide)
  have hgl := hm.mlt
  have hc := hid (vGet hm.smp hj)
  have HB := hid (And.intro hb hB)
  generalize x.gm = gm at g1 hgl
  generalize x.p2 = p2 at g1 hc
  clear h hm hb hB
  go_enter Tryz.func11, Tryz.ntmps11
  go_upto_region 3 with (fail)
  rw [← hW]
  clear hW
  go_wp2_with fail
  refine hc.out.mono ?_
  rintro e0 w1 ⟨q, c, rfl, ht, hbb⟩
  have hZ := HB.out.2.below hbb HB.out.2.lt
  have z0 : w1.cell? ⟨w.heap.size, 0, none⟩ = some (.int .i64 0) := (hZ.cell 0).trans rfl
  have z1 : w1.cell? ⟨w.heap.size, 1, none⟩ = some (.int .i64 0) := (hZ.cell 1).trans rfl
  have z2 : w1.cell? ⟨w.heap.size, 2, none⟩ = some (.int .i64 0) := (hZ.cell 2).trans rfl
  have z3 : w1.cell? ⟨w.heap.size, 3, none⟩ = some (.int .i64 0) := (hZ.cell 3).trans rfl
  have z4 : w1.cell? ⟨w.heap.size, 4, none⟩ = some (.int .i64 0) := (hZ.cell 4).trans rfl
  have z5 : w1.cell? ⟨w.heap.size, 5, none⟩ = some (.slice none 0 0) := (hZ.cell 5).trans rfl
  have u0 := hZ.frozen 0
  have u1 := hZ.frozen 1
  have u2 := hZ.frozen 2
  have u3 := hZ.frozen 3
  have u4 := hZ.frozen 4
  have u5 := hZ.frozen 5
  have hY := ((((((hZ).set_ 0 (.int .i64 j)).set_ 1 (.int .i64 t.st)).set_ 2 (.int .i64 3)).set_ 3 (.int .i64 1)).set_ 4 (.int .i64 t.ln)).set_ 5 (.slice (some ⟨q, 0, none⟩) 4 c)
  have HY := hid hY
  have hlt : w.heap.size < W.heap.size := HB.out.2.lt
  have HR := hid (And.intro (own_far (own_far (own_far (own_far (own_far (own_far ht _ 0 hlt (.int .i64 j)) _ 1 hlt (.int .i64 t.st)) _ 2 hlt (.int .i64 3)) _ 3 hlt (.int .i64 1)) _ 4 hlt (.int .i64 t.ln)) _ 5 hlt (.slice (some ⟨q, 0, none⟩) 4 c)) (below6_ (HB.out.1.trans (hbb.mono HB.out.1.size)) (Nat.le_refl _) (.int .i64 j) (.int .i64 t.st) (.int .i64 3) (.int .i64 1) (.int .i64 t.ln) (.slice (some ⟨q, 0, none⟩) 4 c)))
  have hsz := HB.out.1.size
  clear hY hZ ht hbb hc g1
  go_wp2_with fail
  have k0 := HY.out.cell 0
  have k1 := HY.out.cell 1
  have k2 := HY.out.cell 2
  have k3 := HY.out.cell 3
  have k4 := HY.out.cell 4
  have k5 := HY.out.cell 5
  exact bodyPost_ret (v := .tuple #[.agg #[.int .i64 j, .int .i64 t.st, .int .i64 3, .int .i64 1, .int .i64 t.ln, .slice (some ⟨q, 0, none⟩) 4 c], .bool true]) (by simp [results, Tryz.results11, go_sem, k0, k1, k2, k3, k4, k5]) rfl ⟨q, c, rfl, own_lower HR.out.1 hsz, HR.out.2⟩
theorem aStripes (h : Arr B T w x) (hL : x.L.length ≤ 100000) (z : Int) (hall : ∀ t ∈ x.L, t.st = z) : Calls Tryz.prog 61 #[.pointer (some ⟨x.gm, 0, none⟩), .int .i64 z] w fun e w' => ∃ v, e = .returned v ∧ w'.ownsRow w.heap.size 3 1 v x.L.length (nums (F.upto x.L.length)) ∧ Below w.heap.size w w' := by
  have g1 := h.mcell 1 _ rfl (by decide) (by decide)
  have hgl := h.mlt
  have hc := hid (vList h.smp (h.inn (by decide)) hL z hall)
  generalize x.gm = gm at g1 hgl
  generalize x.p2 = p2 at g1 hc
  generalize x.L.length = n at hc
  clear h
  go_enter Tryz.func61, Tryz.ntmps61
  go_wp2_with fail
  refine hc.out.mono ?_
  rintro e w' ⟨v, rfl, h1, h2⟩
  have H1 := hid h1
  have H2 := hid h2
  clear h1 h2
  go_wp2_with fail
  go_ret
  exact ⟨v, rfl, H1.out, H2.out⟩
end
end Go.Proofs.YtopbojifllnckaaGreatDoor
namespace Go.Proofs.YtopbojifllnckaaGreatDoor
open Go.RowKit
attribute [local irreducible] wpQuiet
/-- The server of a fragment. -/
def onN (t : SS) (j ix : Nat) : Nat := (t.xs.getD ((ix + j) % 4) 0).toNat
/-- A stripe's servers are four, no two the same, each below five. -/
structure OkS (t : SS) : Prop where
  len : t.xs.length = 4
  grp : grpB t.xs = true
  five : ∀ y ∈ t.xs, 0 ≤ y ∧ y < 5
theorem OkS.on {t : SS} (h : OkS t) (j ix : Nat) : t.xs.getD ((ix + j) % 4) 0 = (onN t j ix : Int) ∧ onN t j ix < 5 := by
  have hi : (ix + j) % 4 < t.xs.length := by rw [h.len]; omega
  have hm := h.five _ (List.getElem_mem hi)
  have e : t.xs.getD ((ix + j) % 4) 0 = t.xs[(ix + j) % 4] := by simp [List.getD, hi]
  unfold onN
  rw [e]
  omega
/-- What a fragment gives. -/
def fragX (x : X) (t : SS) (j ix : Nat) : ByteArray × Nat := srvGet (x.dn (onN t j ix)) (x.ls (onN t j ix)) (x.C (onN t j ix)) j ix
section
variable {B : Nat} {T : Nat → Nat} {w w' : World} {x : X}
theorem aMost (h : Arr B T w x) : Calls Tryz.prog 48 #[.pointer (some ⟨x.a, 0, none⟩)] w fun e w' => e = .returned (.int .i64 1536) ∧ w = w' := by
  have e2 := h.acell.2.2
  have hl := h.alt
  generalize x.a = a at e2 hl
  clear h
  go_enter Tryz.func48, Tryz.ntmps48
  go_wp2_with fail
  go_ret
  exact ⟨rfl, rfl⟩
set_option maxRecDepth 100000 in
set_option maxHeartbeats 1600000 in
theorem aServer (h : Arr B T w x) {j : Nat} {t : SS} (hj : x.L[j]? = some t) (ho : OkS t) (hj4 : j < 4096) {ix : Nat} (hix : ix < 4) :
    Calls Tryz.prog 112 #[.pointer (some ⟨x.a, 0, none⟩), .int .i64 j, .int .i64 ix] w fun e w' => e = .returned (.tuple #[.int .i64 (onN t j ix), .bool true]) ∧ Below w.heap.size w w' := by
  have e1 := h.acell.2.1
  have hl := h.alt
  have hc := hid (aStripe h hj)
  obtain ⟨n, hn⟩ : ∃ n, n = onN t j ix := ⟨_, rfl⟩
  rw [← hn]
  have hon := (ho.on j ix).1
  rw [← hn] at hon
  have HO := hid (And.intro ho hon)
  generalize x.a = a at e1 hl
  generalize x.gm = gm at e1 hc
  generalize t.st = st at hc
  generalize t.ln = ln at hc
  clear h hj ho hn hon
  go_enter Tryz.func112, Tryz.ntmps112
  go_wp2_with fail
  refine hc.out.mono ?_
  rintro e w1 ⟨q, c, rfl, hq, hb⟩
  go_upto_region 2 with (fail)
  obtain ⟨W, hW⟩ : ∃ W, W = w1.alloc (.cells #[.int .i64 j, .int .i64 st, .int .i64 3, .int .i64 1, .int .i64 ln, .slice (some ⟨q, 0, none⟩) 4 c] 37) := ⟨_, rfl⟩
  rw [← hW]
  have hb2 : Below w.heap.size w W := by rw [hW]; exact hb.alloc hb.size _
  have hB : Blk W w1.heap.size 37 #[.int .i64 j, .int .i64 st, .int .i64 3, .int .i64 1, .int .i64 ln, .slice (some ⟨q, 0, none⟩) 4 c] := by rw [hW]; exact Blk.new w1 37 _
  have z5 : W.cell? ⟨w1.heap.size, 5, none⟩ = some (.slice (some ⟨q, 0, none⟩) 4 c) := (hB.cell 5).trans rfl
  have hqW : W.ownsRow w.heap.size 3 1 (.slice (some ⟨q, 0, none⟩) 4 c) 4 (nums t.xs) := by rw [hW]; exact hq.alloc _
  have hcc : Hid (4 ≤ c ∧ c ≤ maxLen) := by
    obtain ⟨_, _, _, _, h1, h2⟩ := own_q hqW (by omega)
    exact ⟨h1, h2⟩
  have hs := layServer_ok (st := j) (j := ix) (hid (IntsAt.of_holds (own_holdsS hqW).1)) (Nat.le_refl _) HO.out.1.len hcc.out.1 hcc.out.2 HO.out.1.grp hj4 hix
  rw [HO.out.2] at hs
  have HS := hid hs
  have HB := hid hb2
  clear hW hb2 hB hqW hs hq hb hc
  go_wp2_with fail
  refine HS.out.mono ?_
  rintro e w2 ⟨rfl, hb3⟩
  have HB3 := hid hb3
  clear hb3 HS
  go_wp2_with fail
  go_ret2
  exact ⟨rfl, HB.out.trans (HB3.out.mono HB.out.size)⟩
set_option maxRecDepth 100000 in
set_option maxHeartbeats 1600000 in
theorem aFragment (h : Arr B T w x) {j : Nat} {t : SS} (hj : x.L[j]? = some t) (ho : OkS t) (hj4 : j < 4096) {ix : Nat} (hix : ix < 4) :
    Calls Tryz.prog 118 #[.pointer (some ⟨x.a, 0, none⟩), .int .i64 j, .int .i64 ix] w fun e w' => e = .returned (.tuple #[.string (fragX x t j ix).1, .int .i64 (fragX x t j ix).2]) ∧ Below w.heap.size w w' := by
  have hl := h.alt
  have hc := hid (aServer h hj ho hj4 hix)
  have H := hid h
  obtain ⟨n, hn⟩ : ∃ n, n = onN t j ix := ⟨_, rfl⟩
  have hn5 := (ho.on j ix).2
  unfold fragX
  rw [← hn] at hn5 hc ⊢
  obtain ⟨s, hs⟩ : ∃ s, s = (srvGet (x.dn n) (x.ls n) (x.C n) j ix).1 := ⟨_, rfl⟩
  obtain ⟨er, her⟩ : ∃ er, er = (srvGet (x.dn n) (x.ls n) (x.C n) j ix).2 := ⟨_, rfl⟩
  rw [← hs, ← her]
  have HS := hid (And.intro hs her)
  obtain ⟨a, ha⟩ : ∃ a, a = x.a := ⟨_, rfl⟩
  rw [← ha] at hl hc ⊢
  have HA := hid ha
  have HN5 := hid hn5
  clear h hj ho hs her ha hn hn5 hj4 hix
  go_enter Tryz.func118, Tryz.ntmps118
  go_wp2_with fail
  refine hc.out.mono ?_
  rintro e w1 ⟨rfl, hb⟩
  have h1 := H.out.below hb
  have e0 := h1.acell.1
  rw [← HA.out] at e0
  obtain ⟨sg, hsg⟩ : ∃ sg, sg = x.sg := ⟨_, rfl⟩
  rw [← hsg] at e0
  obtain ⟨v, hv⟩ := h1.srv.at_ HN5.out
  have hg := srvGet_any hv (h1.sto HN5.out) j ix
  rw [← hsg, ← HS.out.1, ← HS.out.2] at hg
  have HG := hid hg
  have HB := hid hb
  have hl1 : a < w1.heap.size := by rw [HA.out]; exact h1.alt
  clear hb h1 hg hsg hv
  go_wp2_with fail
  refine HG.out.mono ?_
  rintro e w2 ⟨rfl, hb3⟩
  have HB3 := hid hb3
  clear hb3 HG
  go_wp2_with fail
  go_ret2
  exact ⟨rfl, HB.out.trans (HB3.out.mono HB.out.size)⟩
set_option maxRecDepth 100000 in
set_option maxHeartbeats 1600000 in
theorem aSet_with (h : Arr B T w x) {j : Nat} {t : SS} (hj : x.L[j]? = some t) (ho : OkS t) (hj4 : j < 4096) {ix : Nat} (hix : ix < 4) (body : ByteArray) (er : Nat) (R : World → World → Prop)
    (hput : ∀ w1, Below w.heap.size w w1 → Calls Tryz.prog 113 #[.pointer (some ⟨x.sg, 0, none⟩), .int .i64 (onN t j ix), .agg #[.int .i64 j, .int .i64 ix], .string body] w1 fun e w' => e = .returned (.int .i64 er) ∧ R w1 w') :
    Calls Tryz.prog 51 #[.pointer (some ⟨x.a, 0, none⟩), .int .i64 j, .int .i64 ix, .string body] w fun e w' => e = .returned (.int .i64 er) ∧ ∃ w1, Below w.heap.size w w1 ∧ R w1 w' := by
  have hl := h.alt
  have hc := hid (aServer h hj ho hj4 hix)
  have H := hid h
  have HP := hid hput
  obtain ⟨n, hn⟩ : ∃ n, n = onN t j ix := ⟨_, rfl⟩
  rw [← hn] at hc HP
  obtain ⟨a, ha⟩ : ∃ a, a = x.a := ⟨_, rfl⟩
  rw [← ha] at hl hc ⊢
  obtain ⟨sg, hsg⟩ : ∃ sg, sg = x.sg := ⟨_, rfl⟩
  rw [← hsg] at HP
  have HA := hid (And.intro ha hsg)
  clear h hj ho ha hput hsg hn hj4 hix
  go_enter Tryz.func51, Tryz.ntmps51
  go_wp2_with fail
  refine hc.out.mono ?_
  rintro e w1 ⟨rfl, hb⟩
  have h1 := H.out.below hb
  have e0 := h1.acell.1
  rw [← HA.out.1, ← HA.out.2] at e0
  have hg := hid (HP.out w1 hb)
  have HB := hid hb
  have hl1 : a < w1.heap.size := by rw [HA.out.1]; exact h1.alt
  clear hb h1
  go_wp2_with fail
  refine hg.out.mono ?_
  rintro e w2 ⟨rfl, hr⟩
  have HR := hid hr
  clear hr hg HP
  go_wp2_with fail
  go_ret
  exact ⟨rfl, w1, HB.out, HR.out⟩
theorem aSet_up (h : Arr B T w x) {j : Nat} {t : SS} (hj : x.L[j]? = some t) (ho : OkS t) (hj4 : j < 4096) {ix : Nat} (hix : ix < 4) (body : ByteArray) (hb : body.size ≤ 512)
    (hd : x.dn (onN t j ix) = false) (hl : x.ls (onN t j ix) = false) (hC : (x.C (onN t j ix)).length < 11) (hno : look (x.C (onN t j ix)) j ix = none) :
    Calls Tryz.prog 51 #[.pointer (some ⟨x.a, 0, none⟩), .int .i64 j, .int .i64 ix, .string body] w fun e w' => e = .returned (.int .i64 0) ∧ ∃ T', Arr B T' w' { x with C := upd x.C (onN t j ix) (x.C (onN t j ix) ++ [⟨j, ix, body⟩]) } ∧ Goes T w T' w' := by
  have hn5 := (ho.on j ix).2
  refine (aSet_with h hj ho hj4 hix body 0 (fun w1 w' => ∃ T', Arr B T' w' { x with C := upd x.C (onN t j ix) (x.C (onN t j ix) ++ [⟨j, ix, body⟩]) } ∧ Goes T w1 T' w') fun w1 hb1 => ?_).mono ?_
  · have h1 := h.below hb1
    obtain ⟨v, hv⟩ := h1.srv.at_ hn5
    rw [hd, hl] at hv
    refine (srvPut_any hv (h1.sto hn5) (h1.inn (by omega)) hC j ix body (by omega) (by omega) hb hno).mono ?_
    rintro e w' ⟨he, k1, k2⟩
    obtain ⟨m1, m2⟩ := h1.turn (y := { x with C := upd x.C (onN t j ix) (x.C (onN t j ix) ++ [⟨j, ix, body⟩]) }) (onN t j ix + 11) (by omega) k2 (by
      intro _
      show Store _ w' (x.g _) (x.d _) (upd x.C _ _ _)
      rw [upd_same]
      exact k1.mono fun _ h => .inl h) (part_C _ _)
    exact ⟨he, _, m1, m2⟩
  · rintro e w' ⟨he, w1, hb1, T', m1, m2⟩
    exact ⟨he, T', m1, (Goes.below hb1).trans m2⟩
theorem aSet_down (h : Arr B T w x) {j : Nat} {t : SS} (hj : x.L[j]? = some t) (ho : OkS t) (hj4 : j < 4096) {ix : Nat} (hix : ix < 4) (body : ByteArray) (hd : x.dn (onN t j ix) = true) :
    Calls Tryz.prog 51 #[.pointer (some ⟨x.a, 0, none⟩), .int .i64 j, .int .i64 ix, .string body] w fun e w' => e = .returned (.int .i64 8) ∧ Below w.heap.size w w' := by
  have hn5 := (ho.on j ix).2
  refine (aSet_with h hj ho hj4 hix body 8 (fun w1 w' => Below w1.heap.size w1 w') fun w1 hb1 => ?_).mono ?_
  · have h1 := h.below hb1
    obtain ⟨v, hv⟩ := h1.srv.at_ hn5
    exact sPut_down hv (by rw [hd]; rfl) _ _ _
  · rintro e w' ⟨he, w1, hb1, hb2⟩
    exact ⟨he, hb1.trans (hb2.mono hb1.size)⟩
end
end Go.Proofs.YtopbojifllnckaaGreatDoor
