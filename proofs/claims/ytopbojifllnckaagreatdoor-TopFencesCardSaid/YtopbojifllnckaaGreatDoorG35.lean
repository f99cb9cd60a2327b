/- The manager: what does a kind of commands. The manager: Do. The manager: Stripe. -/
import Derived.Test.YtopbojifllnckaaGreatDoorG34
namespace Go.Proofs.YtopbojifllnckaaGreatDoor
open Go.RowKit
attribute [local irreducible] wpQuiet
section
variable {B : Nat} {T : Nat → Nat} {w w' : World} {gm p1 p2 p3 p4 p5 p6 : Nat} {L L' : List Str} {ep ep' : Int} {N : Nat} {f f' : Int → Int}
theorem DEnd.to {R R' : List Str → Int → List Int → Nat → Prop} {M : Nat} {e : Ending} (h : DEnd B T w gm p1 p2 p3 p4 p5 p6 N f R e w') (hR : ∀ L' ep' l r, R L' ep' l r → R' L' ep' l r) (hM : N ≤ M) : DEnd B T w gm p1 p2 p3 p4 p5 p6 M f R' e w' := by
  obtain ⟨A, n, c, l, r, T', L', ep', h1, h2, h3, h4, h5, h6, h7, h8, h9⟩ := h
  exact ⟨A, n, c, l, r, T', L', ep', h1, h2, h3, h4, h5, h6, h7.more hM, h8, hR _ _ _ _ h9⟩
theorem does_any (h : Mgr B T w gm p1 p2 p3 p4 p5 p6 L ep N f) (hN : N ≤ 100000) (cl sq kd a b c d e : Int) (h0 : 1 ≤ kd) (h1 : kd ≤ 9) (ha : I64 a) : ∃ g : Nat, (g = 93 ∨ g = 94 ∨ g = 95 ∨ g = 96 ∨ g = 97 ∨ g = 98 ∨ g = 99 ∨ g = 100 ∨ g = 101) ∧
    (∀ w, Calls Tryz.prog 41 #[.int .i64 kd] w fun e w' => e = .returned (.func (.func g) #[] #[]) ∧ w = w') ∧
    ∀ W2, Below w.heap.size w W2 → Calls Tryz.prog g #[.pointer (some ⟨gm, 0, none⟩), .agg #[.int .i64 cl, .int .i64 sq, .int .i64 kd, .int .i64 a, .int .i64 b, .int .i64 c, .int .i64 d, .int .i64 e]] W2 (DEnd B T W2 gm p1 p2 p3 p4 p5 p6 (N + 1) f (DoR kd cl a L ep)) := by
  have hk : kd = 1 ∨ kd = 2 ∨ kd = 3 ∨ kd = 4 ∨ kd = 5 ∨ kd = 6 ∨ kd = 7 ∨ kd = 8 ∨ kd = 9 := by omega
  rcases hk with rfl | rfl | rfl | rfl | rfl | rfl | rfl | rfl | rfl
  · exact ⟨93, by omega, fun w => does_1 w, fun W2 hb => (begin_any (h.below hb) cl sq 1 a b c d e hN).mono fun _ _ q => q.to (fun _ _ _ _ h => h) (Nat.le_refl _)⟩
  · exact ⟨94, by omega, fun w => does_2 w, fun W2 hb => (commit_any (h.below hb) cl sq 2 a b c d e hN).mono fun _ _ q => q.to (fun _ _ _ _ h => h) (Nat.le_refl _)⟩
  · exact ⟨95, by omega, fun w => does_3 w, fun W2 hb => (free_any (h.below hb) cl sq 3 a b c d e hN).mono fun _ _ q => q.to (fun _ _ _ _ h => .inr (.inr (.inl ⟨rfl, h⟩))) (Nat.le_succ N)⟩
  · exact ⟨96, by omega, fun w => does_4 w, fun W2 hb => (move_any (h.below hb) cl sq 4 a b c d e hN).mono fun _ _ q => q.to (fun _ _ _ _ h => .inr (.inr (.inr ⟨by decide, by decide, by decide, h⟩))) (Nat.le_succ N)⟩
  · exact ⟨97, by omega, fun w => does_5 w, fun W2 hb => (fail_any (h.below hb) cl sq 5 a b c d e).mono fun _ _ q => q.to (fun _ _ _ _ h => .inr (.inr (.inr ⟨by decide, by decide, by decide, h⟩))) (Nat.le_succ N)⟩
  · exact ⟨98, by omega, fun w => does_6 w, fun W2 hb => (swap_any (h.below hb) cl sq 6 a b c d e hN).mono fun _ _ q => q.to (fun _ _ _ _ h => .inr (.inr (.inr ⟨by decide, by decide, by decide, h⟩))) (Nat.le_succ N)⟩
  · exact ⟨99, by omega, fun w => does_7 w, fun W2 hb => (close_any (h.below hb) cl sq 7 a b c d e).mono fun _ _ q => q.to (fun _ _ _ _ h => .inr (.inr (.inr ⟨by decide, by decide, by decide, h⟩))) (Nat.le_succ N)⟩
  · exact ⟨100, by omega, fun w => does_8 w, fun W2 hb => (grant_any (h.below hb) cl sq 8 a b c d e hN).mono fun _ _ q => q.to (fun _ _ _ _ h => .inr (.inr (.inr ⟨by decide, by decide, by decide, h⟩))) (Nat.le_refl _)⟩
  · exact ⟨101, by omega, fun w => does_9 w, fun W2 hb => (drop_any (h.below hb) cl sq 9 a b c d e ha).mono fun _ _ q => q.to (fun _ _ _ _ h => .inr (.inr (.inr ⟨by decide, by decide, by decide, h⟩))) (Nat.le_succ N)⟩
end
end Go.Proofs.YtopbojifllnckaaGreatDoor
namespace Go.Proofs.YtopbojifllnckaaGreatDoor
open Go.RowKit
attribute [local irreducible] wpQuiet
section
variable {B : Nat} {T : Nat → Nat} {w w' : World} {gm p1 p2 p3 p4 p5 p6 : Nat} {L L' : List Str} {ep ep' : Int} {N : Nat} {f f' : Int → Int}
/-- Behind a command's function. -/
def DoMid (B : Nat) (T : Nat → Nat) (w : World) (gm p1 p2 p3 p4 p5 p6 N : Nat) (f : Int → Int) (kd cl a : Int) (L : List Str) (ep : Int) (bx : Nat) (cs : Array Value) (A : Option Addr) (n r : Nat) (W : World) : Prop :=
  ∃ (l : List Int) (T' : Nat → Nat) (L' : List Str) (ep' : Int), l.length = n ∧ Holds W W.heap.size A (nums l) ∧ (∀ x ∈ l, I64 x) ∧ n ≤ 3 ∧ r < 256 ∧ Mgr B T' W gm p1 p2 p3 p4 p5 p6 L' ep' N f ∧ Goes T w T' W ∧ DoR kd cl a L ep L' ep' l r ∧ Blk W bx 30 cs ∧ T' bx = 0
/-- Behind the answer. -/
def DoFin (B : Nat) (T : Nat → Nat) (w : World) (gm p1 p2 p3 p4 p5 p6 N : Nat) (f : Int → Int) (kd cl a : Int) (L : List Str) (ep : Int) (bx : Nat) (cs : Array Value) (s : ByteArray) (W : World) : Prop :=
  ∃ (l : List Int) (r : Nat) (T' : Nat → Nat) (L' : List Str) (ep' : Int), s = ansB l r ∧ (∀ x ∈ l, I64 x) ∧ l.length ≤ 3 ∧ r < 256 ∧ Mgr B T' W gm p1 p2 p3 p4 p5 p6 L' ep' N f ∧ Goes T w T' W ∧ DoR kd cl a L ep L' ep' l r ∧ Blk W bx 30 cs ∧ T' bx = 0
/-- How Do ends. -/
def DoEnd (B : Nat) (T : Nat → Nat) (w : World) (gm p1 p2 p3 p4 p5 p6 N : Nat) (f : Int → Int) (kd cl a : Int) (L : List Str) (ep : Int) (e : Ending) (w' : World) : Prop :=
  ∃ (l : List Int) (r : Nat) (T' : Nat → Nat) (L' : List Str) (ep' : Int), e = .returned (.string (ansB l r)) ∧ (∀ x ∈ l, I64 x) ∧ l.length ≤ 3 ∧ r < 256 ∧ Mgr B T' w' gm p1 p2 p3 p4 p5 p6 L' ep' N f ∧ Goes T w T' w' ∧ DoR kd cl a L ep L' ep' l r
set_option maxRecDepth 100000 in
set_option maxHeartbeats 3200000 in
theorem Do_ok (h : Mgr B T w gm p1 p2 p3 p4 p5 p6 L ep N f) (hN : N ≤ 10000) (cl sq kd a b c d e : Int) (hx : Cmd.OK ⟨cl, sq, kd, a, b, c, d, e⟩) (hi : Cmd.In ⟨cl, sq, kd, a, b, c, d, e⟩) (hf : ∀ k, f k ≤ 2147483648) (hfs : f cl ≤ sq) :
    Calls Tryz.prog 9 #[.pointer (some ⟨gm, 0, none⟩), .string (encC ⟨cl, sq, kd, a, b, c, d, e⟩)] w (DoEnd B T w gm p1 p2 p3 p4 p5 p6 (N + 2) (fun k => if k = cl then sq + 1 else f k) kd cl a L ep) := by
  have hdec : Hid (Calls Tryz.prog 39 #[.string (encC ⟨cl, sq, kd, a, b, c, d, e⟩)] w fun e0 w' => e0 = .returned (.tuple #[.agg #[.int .i64 cl, .int .i64 sq, .int .i64 kd, .int .i64 a, .int .i64 b, .int .i64 c, .int .i64 d, .int .i64 e], .int .i64 0]) ∧ Below w.heap.size w w') := Decode_ok ⟨cl, sq, kd, a, b, c, d, e⟩ hx hi w
  obtain ⟨s, hs⟩ : ∃ s, s = encC ⟨cl, sq, kd, a, b, c, d, e⟩ := ⟨_, rfl⟩
  rw [← hs] at hdec ⊢
  clear hs
  obtain ⟨f', hf'⟩ : ∃ f' : Int → Int, f' = fun k => if k = cl then sq + 1 else f k := ⟨_, rfl⟩
  rw [← hf']
  have hfa : ∀ k, f' k ≤ 2147483648 := fun k => by
    rw [hf']
    have h1 := hx.s1
    have h2 := hf k
    simp only at h1 ⊢
    split <;> omega
  have hfb : sq < f' cl := by rw [hf']; simp only [if_true]; omega
  have HF := hid (And.intro hf (And.intro hfs (And.intro hfa hfb)))
  have HH := hid h
  have HX := hid (And.intro hx hi)
  clear h hx hi hf hfs hfa hfb
  go_enter Tryz.func9, Tryz.ntmps9
  go_wp2_with fail
  refine hdec.out.mono ?_
  rintro e0 w1 ⟨rfl, hb1⟩
  have HB := hid hb1
  clear hb1 hdec
  go_upto_region 6 with (fail)
  obtain ⟨W, hW⟩ : ∃ W, W = w1.alloc (.cells #[.int .i64 cl, .int .i64 sq, .int .i64 kd, .int .i64 a, .int .i64 b, .int .i64 c, .int .i64 d, .int .i64 e] 30) := ⟨_, rfl⟩
  rw [← hW]
  obtain ⟨bx, hbx⟩ : ∃ bx, bx = w1.heap.size := ⟨_, rfl⟩
  rw [← hbx]
  have hb2 : Below w.heap.size w W := by rw [hW]; exact HB.out.alloc HB.out.size _
  have hB : Blk W bx 30 #[.int .i64 cl, .int .i64 sq, .int .i64 kd, .int .i64 a, .int .i64 b, .int .i64 c, .int .i64 d, .int .i64 e] := by rw [hW, hbx]; exact Blk.new w1 30 _
  have hm := HH.out.below hb2
  have hTb : T bx = 0 := HH.out.fits.zero (by rw [hbx]; exact HB.out.size)
  have hg0 := Goes.below (T := T) hb2
  have q5 := hm.cell 5 _ (by decide) rfl
  have y0 : W.cell? ⟨bx, 0, none⟩ = some (.int .i64 cl) := (hB.cell 0).trans rfl
  have y1 : W.cell? ⟨bx, 1, none⟩ = some (.int .i64 sq) := (hB.cell 1).trans rfl
  have hgl : gm < W.heap.size := by obtain ⟨_, hq⟩ := hm.blk; exact hq.lt
  have hcT : Hid (∀ W2, W2 = W.drew → Calls Tryz.prog 40 #[.pointer (some ⟨p6, 0, none⟩), .int .i64 cl, .int .i64 sq] W2 fun e0 w' => e0 = .returned (.tuple #[.int .i64 1, .string ⟨#[]⟩]) ∧ (w'.cell? ⟨gm, 5, none⟩ = some (.pointer (some ⟨p6, 0, none⟩)) ∧ w'.cell? ⟨bx, 0, none⟩ = some (.int .i64 cl) ∧ w'.cell? ⟨bx, 1, none⟩ = some (.int .i64 sq)) ∧ Hid (∃ T', Mgr B T' w' gm p1 p2 p3 p4 p5 p6 L ep (N + 1) f' ∧ Goes T w T' w' ∧ Blk w' bx 30 #[.int .i64 cl, .int .i64 sq, .int .i64 kd, .int .i64 a, .int .i64 b, .int .i64 c, .int .i64 d, .int .i64 e] ∧ T' bx = 0)) := by
    show ∀ W2, _
    intro W2 hW2
    have hb3 : Below W.heap.size W W2 := by rw [hW2]; exact (Below.refl _ _).drew
    have hm2 := hm.below hb3
    have c0 : 0 ≤ cl := HX.out.1.c0
    have c1 : cl < 16 := HX.out.1.c1
    refine (Take_any hm2.rep HF.out.1 c0 (by omega) HX.out.1.s0 HX.out.1.s1 HF.out.2.1 (by omega)).mono ?_
    rintro e0 w' ⟨he, h1, h2⟩
    simp only at h1
    rw [← hf'] at h1
    obtain ⟨m1, m2⟩ := (hm2.more (Nat.le_succ N)).rep_ h1 h2
    have hB3 := (hB.below hb3 hB.lt).only h2 (by show ¬ T bx = 6; rw [hTb]; decide)
    exact ⟨he, ⟨m1.cell 5 _ (by decide) rfl, (hB3.cell 0).trans rfl, (hB3.cell 1).trans rfl⟩, _, m1, (hg0.trans (Goes.below hb3)).trans m2, hB3, m2.free bx (hB.below hb3 hB.lt).lt hTb⟩
  have HF' := hid hf'
  clear hW hbx hb2 hB hm hTb hg0 hf' HB HH
  go_region_held3 (fun w' => w'.cell? ⟨gm, 5, none⟩ = some (.pointer (some ⟨p6, 0, none⟩)) ∧ w'.cell? ⟨bx, 0, none⟩ = some (.int .i64 cl) ∧ w'.cell? ⟨bx, 1, none⟩ = some (.int .i64 sq)) (first | (with_reducible exact hS) | (with_reducible exact ⟨q5, y0, y1⟩) | go_keep) ((go_at_call 40; refine (hcT.out _ (by rfl)).mono ?_; rintro e0 w2 ⟨rfl, hS, hI⟩))
  clear hS hcT q5 y0 y1 hgl
  go_upto_region 12 with (fail)
  obtain ⟨T1, hm, hg, hB, hTb⟩ := hI.out
  obtain ⟨g, hgn, hg1, hg2⟩ := does_any hm (by omega) cl sq kd a b c d e HX.out.1.k0 HX.out.1.k1 HX.out.2.a
  have y0 : w2.cell? ⟨bx, 0, none⟩ = some (.int .i64 cl) := (hB.cell 0).trans rfl
  have y1 : w2.cell? ⟨bx, 1, none⟩ = some (.int .i64 sq) := (hB.cell 1).trans rfl
  have y2 : w2.cell? ⟨bx, 2, none⟩ = some (.int .i64 kd) := (hB.cell 2).trans rfl
  have y3 : w2.cell? ⟨bx, 3, none⟩ = some (.int .i64 a) := (hB.cell 3).trans rfl
  have y4 : w2.cell? ⟨bx, 4, none⟩ = some (.int .i64 b) := (hB.cell 4).trans rfl
  have y5 : w2.cell? ⟨bx, 5, none⟩ = some (.int .i64 c) := (hB.cell 5).trans rfl
  have y6 : w2.cell? ⟨bx, 6, none⟩ = some (.int .i64 d) := (hB.cell 6).trans rfl
  have y7 : w2.cell? ⟨bx, 7, none⟩ = some (.int .i64 e) := (hB.cell 7).trans rfl
  have hcK : Hid (∀ W2, W2 = w2.drew → Calls Tryz.prog 41 #[.int .i64 kd] W2 fun e0 w' => e0 = .returned (.func (.func g) #[] #[]) ∧ W2 = w') := fun W2 _ => hg1 W2
  have hcG : Hid (∀ W2, W2 = w2.drew → Calls Tryz.prog g #[.pointer (some ⟨gm, 0, none⟩), .agg #[.int .i64 cl, .int .i64 sq, .int .i64 kd, .int .i64 a, .int .i64 b, .int .i64 c, .int .i64 d, .int .i64 e]] W2 fun e0 w' => ∃ A n c' r, e0 = .returned (.tuple #[.slice A n c', .int .i64 ((r : Nat) : Int)]) ∧ (w'.cell? ⟨bx, 0, none⟩ = some (.int .i64 cl) ∧ w'.cell? ⟨bx, 1, none⟩ = some (.int .i64 sq) ∧ w'.cell? ⟨bx, 2, none⟩ = some (.int .i64 kd) ∧ w'.cell? ⟨bx, 3, none⟩ = some (.int .i64 a) ∧ w'.cell? ⟨bx, 4, none⟩ = some (.int .i64 b) ∧ w'.cell? ⟨bx, 5, none⟩ = some (.int .i64 c) ∧ w'.cell? ⟨bx, 6, none⟩ = some (.int .i64 d) ∧ w'.cell? ⟨bx, 7, none⟩ = some (.int .i64 e)) ∧ Hid (DoMid B T w gm p1 p2 p3 p4 p5 p6 (N + 2) f' kd cl a L ep bx #[.int .i64 cl, .int .i64 sq, .int .i64 kd, .int .i64 a, .int .i64 b, .int .i64 c, .int .i64 d, .int .i64 e] A n r w')) := by
    show ∀ W2, _
    intro W2 hW2
    have hb3 : Below w2.heap.size w2 W2 := by rw [hW2]; exact (Below.refl _ _).drew
    refine (hg2 W2 hb3).mono ?_
    rintro e0 w' ⟨A, n, c', l, r, T', L', ep', he, h1, h2, h3, h4, h5, h6, h7, h8⟩
    have hB2 := hB.below hb3 hB.lt
    have hB3 := hB2.only h7.only (by show ¬ (T1 bx ≠ 0); rw [hTb]; decide)
    exact ⟨A, n, c', r, he, ⟨(hB3.cell 0).trans rfl, (hB3.cell 1).trans rfl, (hB3.cell 2).trans rfl, (hB3.cell 3).trans rfl, (hB3.cell 4).trans rfl, (hB3.cell 5).trans rfl, (hB3.cell 6).trans rfl, (hB3.cell 7).trans rfl⟩, l, T', L', ep', h1, h2, h3, h4, h5, h6, (hg.trans (Goes.below hb3)).trans h7, h8, hB3, h7.free bx hB2.lt hTb⟩
  have hcA : Hid (∀ W2 A n c' r, DoMid B T w gm p1 p2 p3 p4 p5 p6 (N + 2) f' kd cl a L ep bx #[.int .i64 cl, .int .i64 sq, .int .i64 kd, .int .i64 a, .int .i64 b, .int .i64 c, .int .i64 d, .int .i64 e] A n r W2 → Calls Tryz.prog 38 #[.slice A n c', .int .i64 ((r : Nat) : Int)] W2 fun e0 w' => ∃ s, e0 = .returned (.string s) ∧ (w'.cell? ⟨bx, 0, none⟩ = some (.int .i64 cl) ∧ w'.cell? ⟨bx, 1, none⟩ = some (.int .i64 sq) ∧ w'.cell? ⟨bx, 2, none⟩ = some (.int .i64 kd) ∧ w'.cell? ⟨bx, 3, none⟩ = some (.int .i64 a) ∧ w'.cell? ⟨bx, 4, none⟩ = some (.int .i64 b) ∧ w'.cell? ⟨bx, 5, none⟩ = some (.int .i64 c) ∧ w'.cell? ⟨bx, 6, none⟩ = some (.int .i64 d) ∧ w'.cell? ⟨bx, 7, none⟩ = some (.int .i64 e)) ∧ Hid (DoFin B T w gm p1 p2 p3 p4 p5 p6 (N + 2) f' kd cl a L ep bx #[.int .i64 cl, .int .i64 sq, .int .i64 kd, .int .i64 a, .int .i64 b, .int .i64 c, .int .i64 d, .int .i64 e] s w')) := by
    show ∀ W2, _
    rintro W2 A n c' r ⟨l, T', L', ep', h1, h2, h3, h4, h5, h6, h7, h8, h9, h10⟩
    refine (answer_any W2 r h5 h1 h2 (Nat.le_refl _) h3 (by omega)).mono ?_
    rintro e0 w' ⟨he, hb3⟩
    have hB3 := h9.below hb3 h9.lt
    exact ⟨_, he, ⟨(hB3.cell 0).trans rfl, (hB3.cell 1).trans rfl, (hB3.cell 2).trans rfl, (hB3.cell 3).trans rfl, (hB3.cell 4).trans rfl, (hB3.cell 5).trans rfl, (hB3.cell 6).trans rfl, (hB3.cell 7).trans rfl⟩, l, r, T', L', ep', rfl, h3, by omega, h5, h6.below hb3, h7.trans (Goes.below hb3), h8, hB3, h10⟩
  clear hI hm hg hB hTb hg1 hg2
  go_cut [9] (fun s9 wx => ∃ s, s9 = .string s ∧ Hid (DoFin B T w gm p1 p2 p3 p4 p5 p6 (N + 2) f' kd cl a L ep bx #[.int .i64 cl, .int .i64 sq, .int .i64 kd, .int .i64 a, .int .i64 b, .int .i64 c, .int .i64 d, .int .i64 e] s wx))
  case first =>
    rcases hgn with rfl | rfl | rfl | rfl | rfl | rfl | rfl | rfl | rfl
    all_goals
      go_region_held3 (fun w' => w'.cell? ⟨bx, 0, none⟩ = some (.int .i64 cl) ∧ w'.cell? ⟨bx, 1, none⟩ = some (.int .i64 sq) ∧ w'.cell? ⟨bx, 2, none⟩ = some (.int .i64 kd) ∧ w'.cell? ⟨bx, 3, none⟩ = some (.int .i64 a) ∧ w'.cell? ⟨bx, 4, none⟩ = some (.int .i64 b) ∧ w'.cell? ⟨bx, 5, none⟩ = some (.int .i64 c) ∧ w'.cell? ⟨bx, 6, none⟩ = some (.int .i64 d) ∧ w'.cell? ⟨bx, 7, none⟩ = some (.int .i64 e)) (first | (with_reducible exact hS) | (with_reducible exact ⟨y0, y1, y2, y3, y4, y5, y6, y7⟩) | go_keep) ((first
        | (go_at_call 41; refine (hcK.out _ (by rfl)).mono ?_; rintro e0 w' ⟨rfl, rfl⟩)
        | (go_at_call 38; refine (hcA.out _ _ _ _ _ hI.out).mono ?_; rintro e0 w' ⟨s2, rfl, hS, hJ⟩)
        | ((first | go_at_call 93 | go_at_call 94 | go_at_call 95 | go_at_call 96 | go_at_call 97 | go_at_call 98 | go_at_call 99 | go_at_call 100 | go_at_call 101); refine (hcG.out _ (by rfl)).mono ?_; rintro e0 w' ⟨A, n, c', r, rfl, hS, hI⟩)))
      go_wp2_with fail
      go_meet
      exact ⟨s2, rfl, hJ⟩
  case rest =>
    obtain ⟨s2, rfl, hJ⟩ := hcut
    obtain ⟨l, r, T', L', ep', rfl, h1, h2, h3, hm, hg, hd, hB, hTb⟩ := hJ.out
    clear y0 y1 y2 y3 y4 y5 y6 y7 hcK hcG hcA hJ
    have q5 := hm.cell 5 _ (by decide) rfl
    have y0 : wc.cell? ⟨bx, 0, none⟩ = some (.int .i64 cl) := (hB.cell 0).trans rfl
    have y1 : wc.cell? ⟨bx, 1, none⟩ = some (.int .i64 sq) := (hB.cell 1).trans rfl
    have hgl : gm < wc.heap.size := by obtain ⟨_, hq⟩ := hm.blk; exact hq.lt
    obtain ⟨s2, hs2⟩ : ∃ s2, s2 = ansB l r := ⟨_, rfl⟩
    rw [← hs2]
    have HS := hid hs2
    have hcP : Hid (∀ W2, W2 = wc.drewN 1 → Calls Tryz.prog 42 #[.pointer (some ⟨p6, 0, none⟩), .int .i64 cl, .int .i64 sq, .string s2] W2 fun e0 w' => RBool e0 ∧ Hid (∃ T2, Mgr B T2 w' gm p1 p2 p3 p4 p5 p6 L' ep' (N + 2) f' ∧ Goes T w T2 w')) := by
      show ∀ W2, _
      intro W2 hW2
      have hb3 : Below wc.heap.size wc W2 := by rw [hW2]; exact below_drewN (Below.refl _ _) 1
      have hm2 := hm.below hb3
      have c0 : 0 ≤ cl := HX.out.1.c0
      have c1 : cl < 16 := HX.out.1.c1
      refine (Put_any hm2.rep HF.out.2.2.1 s2 c0 (by omega) HX.out.1.s0 HF.out.2.2.2).mono ?_
      rintro e0 w' ⟨he, k1, k2⟩
      obtain ⟨m1, m2⟩ := hm2.rep_ (k1.mono (fun _ h => .inl h) (Nat.le_refl _)) k2
      exact ⟨he, _, m1, (hg.trans (Goes.below hb3)).trans m2⟩
    have HE := hid (And.intro h1 (And.intro h2 (And.intro h3 hd)))
    clear hm hg hB hTb hd h1 h2 h3 hs2
    go_upto_region 13 with (fail)
    go_still_tail 9, (by kernel_rfl)
    change wpList _ _ _ _ _ (wc.drewN 1)
    go_wp2_with fail
    refine (hcP.out _ rfl).mono ?_
    rintro e0 w' ⟨⟨b2, rfl⟩, hI⟩
    go_wp2_with fail
    go_ret
    obtain ⟨T2, m1, m2⟩ := hI.out
    obtain ⟨k1, k2, k3, k4⟩ := HE.out
    exact ⟨l, r, T2, L', ep', (by rw [HS.out]; first | done | rfl), k1, k2, k3, m1, m2, k4⟩
/-- A text that is none. -/
theorem Do_none (gm : Nat) (w : World) : Calls Tryz.prog 9 #[.pointer (some ⟨gm, 0, none⟩), .string ⟨#[]⟩] w fun e w' => (∃ s, e = .returned (.string s)) ∧ Below w.heap.size w w' := by
  have hdec : Hid (Calls Tryz.prog 39 #[.string ⟨#[]⟩] w fun e0 w' => e0 = .returned (.tuple #[.agg #[.int .i64 0, .int .i64 0, .int .i64 0, .int .i64 0, .int .i64 0, .int .i64 0, .int .i64 0, .int .i64 0], .int .i64 3]) ∧ Below w.heap.size w w') := Decode_none w
  go_enter Tryz.func9, Tryz.ntmps9
  go_wp2_with fail
  refine hdec.out.mono ?_
  rintro e0 w1 ⟨rfl, hb1⟩
  have HB := hid hb1
  clear hb1 hdec
  go_upto_region 5 with (fail)
  obtain ⟨W, hW⟩ : ∃ W, W = w1.alloc (.cells #[.int .i64 0, .int .i64 0, .int .i64 0, .int .i64 0, .int .i64 0, .int .i64 0, .int .i64 0, .int .i64 0] 30) := ⟨_, rfl⟩
  rw [← hW]
  have hb2 : Below w.heap.size w W := by rw [hW]; exact HB.out.alloc HB.out.size _
  have HB2 := hid hb2
  have hc := hid (answer_any (L := []) (N := 0) (B := W.heap.size) (A := none) (c := 0) W 3 (by decide) rfl (holds_nil _ _) (Nat.le_refl _) (fun x hx => by cases hx) (by decide))
  clear hW hb2 HB
  go_wp2_with fail
  refine hc.out.mono ?_
  rintro e0 w2 ⟨rfl, hb3⟩
  have HB3 := hid (HB2.out.trans (hb3.mono HB2.out.size))
  clear hb3 hc HB2
  go_wp2_with fail
  go_ret
  exact ⟨⟨_, rfl⟩, HB3.out⟩
end
end Go.Proofs.YtopbojifllnckaaGreatDoor
namespace Go.Proofs.YtopbojifllnckaaGreatDoor
open Go.RowKit
attribute [local irreducible] wpQuiet
section
variable {B : Nat} {T : Nat → Nat} {w w' : World} {gm p1 p2 p3 p4 p5 p6 : Nat} {L L' : List Str} {ep ep' : Int} {N : Nat} {f f' : Int → Int}
set_option maxRecDepth 100000 in
set_option maxHeartbeats 1600000 in
theorem mStripe_any (h : Mgr B T w gm p1 p2 p3 p4 p5 p6 L ep N f) (a : Int) : Calls Tryz.prog 11 #[.pointer (some ⟨gm, 0, none⟩), .int .i64 a] w fun e w' => ∃ (i st ow se ln : Int) (A : Option Addr) (n c : Nat) (t : Bool),
    e = .returned (.tuple #[.agg #[.int .i64 i, .int .i64 st, .int .i64 ow, .int .i64 se, .int .i64 ln, .slice A n c], .bool t]) ∧ Told L a i st ow se ln t ∧ Below w.heap.size w w' := by
  obtain ⟨W, hW⟩ : ∃ W, W = w.alloc (.cells #[.int .i64 0, .int .i64 0, .int .i64 0, .int .i64 0, .int .i64 0, .slice none 0 0] 37) := ⟨_, rfl⟩
  have hb : Below w.heap.size w W := by rw [hW]; exact (Below.refl _ _).alloc (Nat.le_refl _) _
  have hB : Blk W w.heap.size 37 #[.int .i64 0, .int .i64 0, .int .i64 0, .int .i64 0, .int .i64 0, .slice none 0 0] := by rw [hW]; exact Blk.new w 37 _
  have hm := h.below hb
  have g1 := hm.cell 1 _ (by decide) rfl
  have hgl : gm < W.heap.size := by obtain ⟨_, hq⟩ := hm.blk; exact hq.lt
  have hc := hid (sGet_any hm.smp a)
  have HB := hid (And.intro hb hB)
  clear h hm hb hB
  go_enter Tryz.func11, Tryz.ntmps11
  go_upto_region 3 with (fail)
  rw [← hW]
  clear hW
  go_wp2_with fail
  refine hc.out.mono ?_
  rintro e0 w1 ⟨i, st, ow, se, ln, A, n, c, xs, t, rfl, ht, hbb, _⟩
  have hZ := HB.out.2.below hbb HB.out.2.lt
  have z0 : w1.cell? ⟨w.heap.size, 0, none⟩ = some (.int .i64 0) := (hZ.cell 0).trans rfl
  have z1 : w1.cell? ⟨w.heap.size, 1, none⟩ = some (.int .i64 0) := (hZ.cell 1).trans rfl
  have z2 : w1.cell? ⟨w.heap.size, 2, none⟩ = some (.int .i64 0) := (hZ.cell 2).trans rfl
  have z3 : w1.cell? ⟨w.heap.size, 3, none⟩ = some (.int .i64 0) := (hZ.cell 3).trans rfl
  have z4 : w1.cell? ⟨w.heap.size, 4, none⟩ = some (.int .i64 0) := (hZ.cell 4).trans rfl
  have z5 : w1.cell? ⟨w.heap.size, 5, none⟩ = some (.slice none 0 0) := (hZ.cell 5).trans rfl
  have u0 := hZ.frozen 0
  have u1 := hZ.frozen 1
  have u2 := hZ.frozen 2
  have u3 := hZ.frozen 3
  have u4 := hZ.frozen 4
  have u5 := hZ.frozen 5
  have hY := ((((((hZ).set_ 0 (.int .i64 i)).set_ 1 (.int .i64 st)).set_ 2 (.int .i64 ow)).set_ 3 (.int .i64 se)).set_ 4 (.int .i64 ln)).set_ 5 (.slice A n c)
  have HY := hid hY
  have HR := hid (And.intro ht (below6 (HB.out.1.trans (hbb.mono HB.out.1.size)) (Nat.le_refl _) (.int .i64 i) (.int .i64 st) (.int .i64 ow) (.int .i64 se) (.int .i64 ln) (.slice A n c)))
  clear hY hZ ht hbb hc g1
  go_wp2_with fail
  have k0 := HY.out.cell 0
  have k1 := HY.out.cell 1
  have k2 := HY.out.cell 2
  have k3 := HY.out.cell 3
  have k4 := HY.out.cell 4
  have k5 := HY.out.cell 5
  exact bodyPost_ret (v := .tuple #[.agg #[.int .i64 i, .int .i64 st, .int .i64 ow, .int .i64 se, .int .i64 ln, .slice A n c], .bool t]) (by simp [results, Tryz.results11, go_sem, k0, k1, k2, k3, k4, k5]) rfl ⟨i, st, ow, se, ln, A, n, c, t, rfl, HR.out.1, HR.out.2⟩
end
end Go.Proofs.YtopbojifllnckaaGreatDoor
