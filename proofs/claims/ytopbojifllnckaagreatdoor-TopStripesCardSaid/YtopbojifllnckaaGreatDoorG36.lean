/- array: Do. array: Do with each command. array: Write. -/
import Derived.Test.YtopbojifllnckaaGreatDoorG35
import Derived.Test.YtopbojifllnckaaGreatDoorG29
namespace Go.Proofs.YtopbojifllnckaaGreatDoor
open Go.RowKit
attribute [local irreducible] wpQuiet
/-- The numbers that were laid when k were. -/
def avI (l : List Int) (k i : Nat) : Int := if i < k then l.getD i 0 else 0
/-- A command, when k of its numbers are laid. -/
def cmdK (cl : Nat) (sq kd : Int) (l : List Int) (k : Nat) : Array Value := #[.int .i64 cl, .int .i64 sq, .int .i64 kd, .int .i64 (avI l k 0), .int .i64 (avI l k 1), .int .i64 (avI l k 2), .int .i64 (avI l k 3), .int .i64 (avI l k 4)]
theorem cmdK_none (cl : Nat) (sq kd : Int) (l : List Int) (k : Nat) (h : l.length ≤ k) : cmdK cl sq kd l (k + 1) = cmdK cl sq kd l k := by
  have e : ∀ i, avI l (k + 1) i = avI l k i := fun i => by
    unfold avI
    by_cases h1 : i < k
    · rw [if_pos h1, if_pos (by omega)]
    · by_cases h2 : i < k + 1
      · rw [if_pos h2, if_neg h1, List.getD, List.getElem?_eq_none (by omega)]
        rfl
      · rw [if_neg h2, if_neg h1]
  unfold cmdK
  simp only [e]
theorem cmdK_one (cl : Nat) (sq kd : Int) (l : List Int) (k : Nat) (h : k < 5) : (cmdK cl sq kd l k).setIfInBounds (3 + k) (.int .i64 (l.getD k 0)) = cmdK cl sq kd l (k + 1) := by
  rcases (show k = 0 ∨ k = 1 ∨ k = 2 ∨ k = 3 ∨ k = 4 by omega) with rfl | rfl | rfl | rfl | rfl <;> rfl
/-- The array's next number of a client. -/
def nextQ (q : Int → Int) (cl : Nat) (k : Int) : Int := if k = cl then q cl + 1 else q k
section
variable {B : Nat} {T : Nat → Nat} {w w' : World} {x : X}
theorem Arr.seq (h : Arr B T w x) {cl : Nat} (hcl : cl < 16) : w.cell? ⟨x.a, 3 + cl, none⟩ = some (.int .i64 (x.q cl)) ∧ w.frozen? ⟨x.a, 3 + cl, none⟩ = false := by
  obtain ⟨_, cs, hg, _, _, _, _, h3⟩ := h.arr
  exact ⟨(hg.cell _).trans (h3 cl hcl), hg.frozen _⟩
theorem Arr.bump (h : Arr B T w x) {cl : Nat} (hcl : cl < 16) : Arr B T (w.setCell ⟨x.a, 3 + cl, none⟩ (.int .i64 (x.q cl + 1))) { x with q := nextQ x.q cl } ∧ Goes T w T (w.setCell ⟨x.a, 3 + cl, none⟩ (.int .i64 (x.q cl + 1))) := by
  obtain ⟨hS, cs, hg, h0, h1, h2, h3, h4⟩ := h.arr
  refine h.stay 8 (by decide) (setS (S := fun k => T k = 8) hS _ _ (Only.refl _ _)) (by simp [World.setCell]) ⟨hS, _, hg.set_ (3 + cl) _, by simpa using h0, ?_, ?_, ?_, fun i hi => ?_⟩ (part_q _)
  · rw [Array.getElem?_setIfInBounds_ne (by omega)]; exact h1
  · rw [Array.getElem?_setIfInBounds_ne (by omega)]; exact h2
  · rw [Array.getElem?_setIfInBounds_ne (by omega)]; exact h3
  · by_cases e : i = cl
    · subst e
      rw [Array.getElem?_setIfInBounds_self_of_lt (by omega)]
      simp [nextQ]
    · rw [Array.getElem?_setIfInBounds_ne (by omega), h4 i hi]
      have : ¬ ((i : Int) = (cl : Int)) := by omega
      simp [nextQ, this]
/-- Where Do's loop stands. -/
def DoRel (w wr : World) (cb pb cl : Nat) (sq kd : Int) (l : List Int) (k : Nat) : Prop :=
  Blk wr cb 30 (cmdK cl sq kd l k) ∧ Blk wr pb 184 #[.pointer (some ⟨cb, 3, none⟩), .pointer (some ⟨cb, 4, none⟩), .pointer (some ⟨cb, 5, none⟩), .pointer (some ⟨cb, 6, none⟩), .pointer (some ⟨cb, 7, none⟩)] ∧ Below w.heap.size w wr
set_option maxRecDepth 100000 in
set_option maxHeartbeats 3200000 in
theorem aDo {y : X} {l m : List Int} (h : Arr B T w x) {cl : Nat} (hcl : cl < 16) (kd : Int) {A : Option Addr} {n c : Nat} (hn : l.length = n) (hh : Holds w w.heap.size A (nums l))
    (hx : Cmd.OK ⟨cl, x.q cl, kd, l.getD 0 0, l.getD 1 0, l.getD 2 0, l.getD 3 0, l.getD 4 0⟩) (hi : Cmd.In ⟨cl, x.q cl, kd, l.getD 0 0, l.getD 1 0, l.getD 2 0, l.getD 3 0, l.getD 4 0⟩)
    (hm : ∀ n ∈ m, I64 n) (hm3 : m.length ≤ 3)
    (hdo : ∀ T2 W2, Arr B T2 W2 { x with q := nextQ x.q cl } → Calls Tryz.prog 9 #[.pointer (some ⟨x.gm, 0, none⟩), .string (encC ⟨cl, x.q cl, kd, l.getD 0 0, l.getD 1 0, l.getD 2 0, l.getD 3 0, l.getD 4 0⟩)] W2 fun e0 w' => e0 = .returned (.string (ansB m 0)) ∧ ∃ T', Arr B T' w' y ∧ Goes T2 W2 T' w') :
    Calls Tryz.prog 49 #[.pointer (some ⟨x.a, 0, none⟩), .int .i64 cl, .int .i64 kd, .slice A n c] w fun e w' => ∃ (A' : Option Addr) (c' : Nat) (T' : Nat → Nat), e = .returned (.tuple #[.int .i64 0, .slice A' m.length c']) ∧ m.length ≤ c' ∧ Arr B T' w' y ∧ Goes T w T' w' ∧ RowK T' w' A' m := by
  obtain ⟨a, ha⟩ : ∃ a, a = x.a := ⟨_, rfl⟩
  obtain ⟨gm, hgm⟩ : ∃ gm, gm = x.gm := ⟨_, rfl⟩
  obtain ⟨sq, hsq⟩ : ∃ sq, sq = x.q cl := ⟨_, rfl⟩
  have e3 := (h.seq hcl).1
  have hl := h.alt
  rw [← ha, ← hsq] at e3
  rw [← ha] at hl ⊢
  rw [← hsq] at hx hi
  have hq1 : sq + 1 < 9223372036854775807 := by have := hx.s1; simp only at this; omega
  have hq0 : 0 ≤ sq := hx.s0
  obtain ⟨x2, hx2⟩ : ∃ x2 : X, x2 = { x with q := nextQ x.q cl } := ⟨_, rfl⟩
  obtain ⟨s, hs⟩ : ∃ s, s = encC ⟨cl, sq, kd, l.getD 0 0, l.getD 1 0, l.getD 2 0, l.getD 3 0, l.getD 4 0⟩ := ⟨_, rfl⟩
  have hdo2 : Hid (∀ T2 W2, Arr B T2 W2 x2 → Calls Tryz.prog 9 #[.pointer (some ⟨gm, 0, none⟩), .string s] W2 fun e0 w' => e0 = .returned (.string (ansB m 0)) ∧ ∃ T', Arr B T' w' y ∧ Goes T2 W2 T' w') := by
    rw [hs, hgm, hx2, hsq]
    exact hdo
  have henc : Hid (∀ W2, Calls Tryz.prog 89 #[.agg (cmdK cl sq kd l 5)] W2 fun e w' => e = .returned (.tuple #[.string s, .int .i64 0]) ∧ Below W2.heap.size W2 w') := by
    rw [hs]
    exact menc_ok ⟨cl, sq, kd, l.getD 0 0, l.getD 1 0, l.getD 2 0, l.getD 3 0, l.getD 4 0⟩ hx hi
  obtain ⟨u, hu⟩ : ∃ u, u = ansB m 0 := ⟨_, rfl⟩
  have hans : Hid (∀ W2, Calls Tryz.prog 8 #[.string u] W2 fun r w' => ∃ v, r = .returned (.tuple #[.int .i64 0, v, .int .i64 0]) ∧ NewInts W2 w' v m ∧ Below W2.heap.size W2 w') := by
    rw [hu]
    intro W2
    have := Answer_ok 0 (by decide) hm (by omega) W2
    exact this
  rw [← hu] at hdo2
  have HH := hid (And.intro h (And.intro hh (And.intro hn (And.intro ha (And.intro hgm (And.intro hsq hx2))))))
  have d0 : decide ((cl : Int) < 0) = false := by simp
  have d1 : decide ((16 : Int) ≤ (cl : Int)) = false := by simp; omega
  have q1 : (0 : Int) ≤ (cl : Int) := by omega
  have q2 : (cl : Int) < 16 := by omega
  clear h hh hn ha hgm hsq hx2 hdo hs hu hx hi hm
  go_enter Tryz.func49, Tryz.ntmps49
  go_wp2_with fail
  go_loopw [44] (fun v44 wr => ∃ k : Nat, k ≤ 5 ∧ v44 = .int .i64 k ∧ Hid (DoRel w wr w.heap.size (w.heap.size + 1) cl sq kd l k)) (fun v44 _ => 5 - (intOf v44).toNat)
  case atStart =>
    refine ⟨0, by omega, rfl, ?_, ?_, ?_⟩
    · exact (Blk.new w 30 _).alloc _
    · have hsz : (w.alloc (.cells #[.int .i64 cl, .int .i64 sq, .int .i64 kd, .int .i64 0, .int .i64 0, .int .i64 0, .int .i64 0, .int .i64 0] 30)).heap.size = w.heap.size + 1 := by simp
      rw [← hsz]
      exact Blk.new _ 184 _
    · exact ((Below.refl _ _).alloc (Nat.le_refl _) _).alloc (by simp) _
  case round =>
    obtain ⟨k, hk, rfl, hI⟩ := hrel
    by_cases hk5 : k < 5
    · obtain ⟨hC, hP, hb⟩ := hI.out
      have p1 : wr.cell? ⟨w.heap.size + 1, k, none⟩ = some (.pointer (some ⟨w.heap.size, 3 + k, none⟩)) := by
        rcases (show k = 0 ∨ k = 1 ∨ k = 2 ∨ k = 3 ∨ k = 4 by omega) with rfl | rfl | rfl | rfl | rfl
        · exact (hP.cell 0).trans rfl
        · exact (hP.cell 1).trans rfl
        · exact (hP.cell 2).trans rfl
        · exact (hP.cell 3).trans rfl
        · exact (hP.cell 4).trans rfl
      have hu : ∃ u, wr.cell? ⟨w.heap.size, 3 + k, none⟩ = some u := ⟨_, by rw [hC.cell]; exact Array.getElem?_eq_getElem (by simp [cmdK]; omega)⟩
      obtain ⟨u, hu⟩ := hu
      have fu := hC.frozen (3 + k)
      have q3 : (0 : Int) ≤ (k : Int) := by omega
      have q4 : (k : Int) < 5 := by omega
      have hcl2 := hC.lt
      by_cases hkn : k < n
      · have hkl : k < l.length := by rw [HH.out.2.2.1]; exact hkn
        obtain ⟨ad, rfl, hab, hcs⟩ := HH.out.2.1 (by rw [nums_length]; omega)
        have e4 : wr.cell? (ad.add k) = some (.int .i64 l[k]) := (World.cell?_of_block (hb.block _ (by rw [block_add]; exact hab))).trans (hcs k _ (nums_get hkl))
        obtain ⟨v, hv⟩ : ∃ v, v = l[k] := ⟨_, rfl⟩
        rw [← hv] at e4
        have hS : Hid (DoRel w (wr.setCell ⟨w.heap.size, 3 + k, none⟩ (.int .i64 v)) w.heap.size (w.heap.size + 1) cl sq kd l (k + 1)) := by
          refine ⟨?_, hP.far (by show w.heap.size + 1 ≠ w.heap.size; omega) _, hb.setCell (p := ⟨w.heap.size, 3 + k, none⟩) (Nat.le_refl _) _⟩
          have := hC.set_ (3 + k) (.int .i64 v)
          rw [← cmdK_one cl sq kd l k hk5]
          have e5 : l.getD k 0 = v := by rw [hv]; simp [List.getD, hkl]
          rw [e5]
          exact this
        have hkn2 : (k : Int) < (n : Int) := by omega
        clear hC hP hb hcs hab hv
        go_wp2_with fail
        go_roundw
        case rel => exact ⟨k + 1, by omega, by go_num, hS⟩
        case measure => simp [intOf]; omega
      · have hS : Hid (DoRel w wr w.heap.size (w.heap.size + 1) cl sq kd l (k + 1)) := by
          refine ⟨?_, hP, hb⟩
          rw [cmdK_none cl sq kd l k (by rw [HH.out.2.2.1]; omega)]
          exact hC
        have hkn2 : (n : Int) ≤ (k : Int) := by omega
        clear hC hP hb
        go_wp2_with fail
        go_roundw
        case rel => exact ⟨k + 1, by omega, by go_num, hS⟩
        case measure => simp [intOf]; omega
    · obtain rfl : k = 5 := by omega
      obtain ⟨hC, hP, hb⟩ := hI.out
      have HB := hid (And.intro hC hb)
      have c0 : wr.cell? ⟨w.heap.size, 0, none⟩ = some (.int .i64 cl) := (hC.cell 0).trans rfl
      have c1 : wr.cell? ⟨w.heap.size, 1, none⟩ = some (.int .i64 sq) := (hC.cell 1).trans rfl
      have c2 : wr.cell? ⟨w.heap.size, 2, none⟩ = some (.int .i64 kd) := (hC.cell 2).trans rfl
      have c3 : wr.cell? ⟨w.heap.size, 3, none⟩ = some (.int .i64 (avI l 5 0)) := (hC.cell 3).trans rfl
      have c4 : wr.cell? ⟨w.heap.size, 4, none⟩ = some (.int .i64 (avI l 5 1)) := (hC.cell 4).trans rfl
      have c5 : wr.cell? ⟨w.heap.size, 5, none⟩ = some (.int .i64 (avI l 5 2)) := (hC.cell 5).trans rfl
      have c6 : wr.cell? ⟨w.heap.size, 6, none⟩ = some (.int .i64 (avI l 5 3)) := (hC.cell 6).trans rfl
      have c7 : wr.cell? ⟨w.heap.size, 7, none⟩ = some (.int .i64 (avI l 5 4)) := (hC.cell 7).trans rfl
      have hen := hid (henc.out wr)
      unfold cmdK at hen
      clear hC hP hb
      generalize avI l 5 0 = i0 at c3 hen
      generalize avI l 5 1 = i1 at c4 hen
      generalize avI l 5 2 = i2 at c5 hen
      generalize avI l 5 3 = i3 at c6 hen
      generalize avI l 5 4 = i4 at c7 hen
      go_wp2_with fail
      refine hen.out.mono ?_
      rintro e w2 ⟨rfl, hb2⟩
      have HB2 := hid (HB.out.2.trans (hb2.mono HB.out.2.size))
      have hsz2 : w.heap.size ≤ w2.heap.size := HB2.out.size
      have e3' : w2.cell? ⟨a, 3 + cl, none⟩ = some (.int .i64 sq) := (HB2.out.cell (p := ⟨a, 3 + cl, none⟩) hl).trans e3
      clear hb2 c0 c1 c2 c3 c4 c5 c6 c7 hen
      go_upto_region 13 with (fail)
      have f3 : w2.frozen? ⟨a, 3 + cl, none⟩ = false := by rw [HH.out.2.2.2.1]; exact ((HH.out.1.below HB2.out).seq hcl).2
      go_still_tail 10, (by kernel_rfl)
      change wpList _ _ _ _ _ (w2.drewN 1)
      go_upto_region 14 with (fail)
      obtain ⟨W, hW⟩ : ∃ W, W = (w2.drewN 1).setCell ⟨a, 3 + cl, none⟩ (.int .i64 (sq + 1)) := ⟨_, rfl⟩
      rw [← hW]
      have h2 := HH.out.1.below (below_drewN HB2.out 1)
      obtain ⟨n1, n2⟩ := h2.bump hcl
      rw [← HH.out.2.2.2.1, ← HH.out.2.2.2.2.2.1, ← hW] at n2
      have n1' : Arr B T W x2 := by rw [HH.out.2.2.2.2.2.2, hW, HH.out.2.2.2.1, HH.out.2.2.2.2.2.1]; exact n1
      have hx2 := HH.out.2.2.2.2.2.2
      have e1 : W.cell? ⟨a, 1, none⟩ = some (.pointer (some ⟨gm, 0, none⟩)) := by
        have := n1'.acell.2.1
        rw [hx2] at this
        rw [HH.out.2.2.2.1, HH.out.2.2.2.2.1]
        exact this
      have hal : a < W.heap.size := by
        have := n1'.alt
        rw [hx2] at this
        rw [HH.out.2.2.2.1]
        exact this
      have hd := hid (hdo2.out T W n1')
      have HG := hid ((Goes.below (T := T) (below_drewN HB2.out 1)).trans n2)
      clear hW h2 n1 n2 n1' hx2 f3 e3' hsz2
      go_wp2_with fail
      refine hd.out.mono ?_
      rintro e w3 ⟨rfl, T3, m1, m2⟩
      have hans3 := hid (hans.out w3)
      have HM := hid (And.intro m1 m2)
      clear m1 m2 hd e1 hal
      go_wp2_with fail
      refine hans3.out.mono ?_
      rintro e w4 ⟨v, rfl, hv, hb4⟩
      unfold NewInts at hv
      obtain ⟨A', c', rfl⟩ := own_form hv
      have hmc := (own_holdsS hv).2.1
      have HV := hid (And.intro hv hb4)
      clear hv hb4 hans3
      go_wp2_with fail
      go_ret2
      refine ⟨A', c', T3, rfl, hmc, HM.out.1.below HV.out.2, (HG.out.trans HM.out.2).trans (Goes.below HV.out.2), RowK.own HV.out.1 fun k hk => HM.out.1.fits.zero hk⟩
end
end Go.Proofs.YtopbojifllnckaaGreatDoor
namespace Go.Proofs.YtopbojifllnckaaGreatDoor
open Go.RowKit
attribute [local irreducible] wpQuiet
section
variable {B : Nat} {T : Nat → Nat} {w w' : World} {x : X}
theorem getD_in {l : List Int} (hl : ∀ n ∈ l, I64 n) (i : Nat) : I64 (l.getD i 0) := by
  by_cases h : i < l.length
  · rw [show l.getD i 0 = l[i] by simp [List.getD, h]]
    exact hl _ (List.getElem_mem h)
  · rw [show l.getD i 0 = 0 by simp [List.getD, List.getElem?_eq_none (Nat.le_of_not_lt h)]]
    exact ⟨by omega, by omega⟩
theorem doCmd {y : X} {l m : List Int} (h : Arr B T w x) (hN : x.N ≤ 10000) (hfq : x.f = x.q) {cl : Nat} (hcl : cl < 16) (hq : 0 ≤ x.q cl) (hqa : ∀ k, x.q k ≤ 1000000) {kd : Int} (hkd : 1 ≤ kd ∧ kd ≤ 9) (g : Nat) (hgn : g = 93 ∨ g = 94 ∨ g = 97 ∨ g = 98 ∨ g = 99)
    (hg1 : ∀ w, Calls Tryz.prog 41 #[.int .i64 kd] w fun e w' => e = .returned (.func (.func g) #[] #[]) ∧ w = w') {A : Option Addr} {n c : Nat} (hn : l.length = n) (hh : Holds w w.heap.size A (nums l)) (hl : ∀ n ∈ l, I64 n)
    (hm : ∀ n ∈ m, I64 n) (hm3 : m.length ≤ 3) (hy : y.gm = x.gm ∧ y.p6 = x.p6 ∧ y.f = nextQ x.q cl)
    (hg2 : ∀ T2 W2, Arr B T2 W2 { x with q := nextQ x.q cl, f := nextQ x.q cl, N := x.N + 1 } → Calls Tryz.prog g #[.pointer (some ⟨x.gm, 0, none⟩), .agg #[.int .i64 cl, .int .i64 (x.q cl), .int .i64 kd, .int .i64 (l.getD 0 0), .int .i64 (l.getD 1 0), .int .i64 (l.getD 2 0), .int .i64 (l.getD 3 0), .int .i64 (l.getD 4 0)]] W2 (CEnd B T2 W2 y m)) :
    Calls Tryz.prog 49 #[.pointer (some ⟨x.a, 0, none⟩), .int .i64 cl, .int .i64 kd, .slice A n c] w fun e w' => ∃ (A' : Option Addr) (c' : Nat) (T' : Nat → Nat), e = .returned (.tuple #[.int .i64 0, .slice A' m.length c']) ∧ m.length ≤ c' ∧ Arr B T' w' y ∧ Goes T w T' w' ∧ RowK T' w' A' m := by
  have hx : Cmd.OK ⟨cl, x.q cl, kd, l.getD 0 0, l.getD 1 0, l.getD 2 0, l.getD 3 0, l.getD 4 0⟩ := ⟨by show (0 : Int) ≤ cl; omega, by show (cl : Int) < 16; omega, hq, by have := hqa cl; show x.q cl < 2147483648; omega, hkd.1, hkd.2⟩
  have hi : Cmd.In ⟨cl, x.q cl, kd, l.getD 0 0, l.getD 1 0, l.getD 2 0, l.getD 3 0, l.getD 4 0⟩ := ⟨getD_in hl 0, getD_in hl 1, getD_in hl 2, getD_in hl 3, getD_in hl 4⟩
  refine aDo h hcl kd hn hh hx hi hm hm3 fun T2 W2 h2 => ?_
  refine mDo (x := { x with q := nextQ x.q cl }) (x1 := { x with q := nextQ x.q cl, f := nextQ x.q cl, N := x.N + 1 }) h2 hN cl (x.q cl) kd _ _ _ _ _ hx hi (fun k => ?_) ?_ ?_ g hgn hg1 hg2 hy hm hm3
  · show x.f k ≤ _
    rw [hfq]
    have := hqa k
    omega
  · show x.f cl ≤ _
    rw [hfq]
    exact Int.le_refl _
  · show _ = { { x with q := nextQ x.q cl } with f := fun k => if k = (cl : Int) then x.q cl + 1 else x.f k, N := x.N + 1 }
    rw [hfq]
    rfl
/-- All the numbers of clients are told alike, and small. -/
structure OkQ (x : X) : Prop where
  N : x.N ≤ 1000
  fq : x.f = x.q
  q0 : ∀ k, 0 ≤ x.q k
  qa : ∀ k, x.q k ≤ 1000
theorem doBegin (h : Arr B T w x) (ho : OkQ x) (hep : x.G.ep = 1) (hL : x.L.length < 200) (hg : grpB x.G.xs = true) (a : Nat) (ha : a ≤ 65536) {A : Option Addr} {c : Nat} (hh : Holds w w.heap.size A (nums [(a : Int)])) :
    Calls Tryz.prog 49 #[.pointer (some ⟨x.a, 0, none⟩), .int .i64 3, .int .i64 1, .slice A 1 c] w fun e w' => ∃ (A' : Option Addr) (c' : Nat) (T' : Nat → Nat), e = .returned (.tuple #[.int .i64 0, .slice A' 2 c']) ∧ 2 ≤ c' ∧ Arr B T' w' { x with q := nextQ x.q (3 : Nat), f := nextQ x.q (3 : Nat), N := x.N + 1, L := x.L ++ [⟨1, a, x.G.xs⟩] } ∧ Goes T w T' w' ∧ RowK T' w' A' [x.L.length, 1] :=
  doCmd (y := { x with q := nextQ x.q (3 : Nat), f := nextQ x.q (3 : Nat), N := x.N + 1, L := x.L ++ [⟨1, a, x.G.xs⟩] }) (cl := 3) (l := [(a : Int)]) (m := [(x.L.length : Int), 1]) h (by have := ho.N; omega) ho.fq (by omega) (ho.q0 _) (fun k => by have := ho.qa k; omega) (kd := 1) ⟨by omega, by omega⟩ 93 (by omega) kind_1 rfl hh (fun n hn => by rw [List.mem_singleton] at hn; rw [hn]; exact ⟨by omega, by omega⟩)
    (fun n hn => by simp only [List.mem_cons, List.not_mem_nil, or_false] at hn; rcases hn with rfl | rfl <;> exact ⟨by omega, by omega⟩) (by simp) ⟨rfl, rfl, rfl⟩
    fun T2 W2 h2 => mbegin h2 hep hL hg a ha _ _ _ _ _ _
theorem doCommit (h : Arr B T w x) (ho : OkQ x) (hep : x.G.ep = 1) (j : Nat) (s : SS) (hs : x.L[j]? = some s) (hst : s.st = 1) (hln : 0 < s.ln) (hj : j < 100000) {A : Option Addr} {c : Nat} (hh : Holds w w.heap.size A (nums [(j : Int)])) :
    Calls Tryz.prog 49 #[.pointer (some ⟨x.a, 0, none⟩), .int .i64 3, .int .i64 2, .slice A 1 c] w fun e w' => ∃ (A' : Option Addr) (c' : Nat) (T' : Nat → Nat), e = .returned (.tuple #[.int .i64 0, .slice A' 0 c']) ∧ 0 ≤ c' ∧ Arr B T' w' { x with q := nextQ x.q (3 : Nat), f := nextQ x.q (3 : Nat), N := x.N + 1 + 1, L := x.L.set j { s with st := 2 } } ∧ Goes T w T' w' ∧ RowK T' w' A' [] :=
  doCmd (y := { x with q := nextQ x.q (3 : Nat), f := nextQ x.q (3 : Nat), N := x.N + 1 + 1, L := x.L.set j { s with st := 2 } }) (cl := 3) (l := [(j : Int)]) (m := []) h (by have := ho.N; omega) ho.fq (by omega) (ho.q0 _) (fun k => by have := ho.qa k; omega) (kd := 2) ⟨by omega, by omega⟩ 94 (by omega) kind_2 rfl hh (fun n hn => by rw [List.mem_singleton] at hn; rw [hn]; exact ⟨by omega, by omega⟩)
    (fun n hn => by cases hn) (by simp) ⟨rfl, rfl, rfl⟩
    fun T2 W2 h2 => mcommit h2 hep (by show x.N + 1 ≤ _; have := ho.N; omega) j s hs hst hln _ _ _ _ _ _
theorem doFail (h : Arr B T w x) (ho : OkQ x) (k : Nat) (hk : atI x.G.xs k = k) (hk4 : k < 4) (hh : x.G.hole = -1) (hep : x.G.ep = 1) {A : Option Addr} {c : Nat} (hd : Holds w w.heap.size A (nums [(k : Int), 1])) :
    Calls Tryz.prog 49 #[.pointer (some ⟨x.a, 0, none⟩), .int .i64 15, .int .i64 5, .slice A 2 c] w fun e w' => ∃ (A' : Option Addr) (c' : Nat) (T' : Nat → Nat), e = .returned (.tuple #[.int .i64 0, .slice A' 1 c']) ∧ 1 ≤ c' ∧ Arr B T' w' { x with q := nextQ x.q (15 : Nat), f := nextQ x.q (15 : Nat), N := x.N + 1, G := { x.G with ep := x.G.ep + 1, hole := k, fil := false, gone := k }, gone := k } ∧ Goes T w T' w' ∧ RowK T' w' A' [x.G.ep + 1] :=
  doCmd (y := { x with q := nextQ x.q (15 : Nat), f := nextQ x.q (15 : Nat), N := x.N + 1, G := { x.G with ep := x.G.ep + 1, hole := k, fil := false, gone := k }, gone := k }) (cl := 15) (l := [(k : Int), 1]) (m := [x.G.ep + 1]) h (by have := ho.N; omega) ho.fq (by omega) (ho.q0 _) (fun k => by have := ho.qa k; omega) (kd := 5) ⟨by omega, by omega⟩ 97 (by omega) kind_5 rfl hd (fun n hn => by simp only [List.mem_cons, List.not_mem_nil, or_false] at hn; rcases hn with rfl | rfl <;> exact ⟨by omega, by omega⟩)
    (fun n hn => by rw [List.mem_singleton] at hn; rw [hn]; exact ⟨by omega, by omega⟩) (by simp) ⟨rfl, rfl, rfl⟩
    fun T2 W2 h2 => by
      have := mfail h2 k k hk hh (by show 0 ≤ x.G.ep ∧ x.G.ep < 1000; omega) (15 : Nat) (x.q (15 : Nat)) 5 0 0 0
      rw [show ({ x with q := nextQ x.q (15 : Nat), f := nextQ x.q (15 : Nat), N := x.N + 1 } : X).G.ep = 1 from hep] at this
      simp only [hep] at this ⊢
      exact this
theorem doSwap (h : Arr B T w x) (ho : OkQ x) (k : Nat) (hk4 : k < 4) (hm1 : x.G.m = 1) (hh : x.G.hole = k) (hf : x.G.fil = false) (hep : 0 ≤ x.G.ep ∧ x.G.ep < 1000) (hL : x.L.length ≤ 100) (hall : ∀ s ∈ x.L, s.st ≠ 3 ∧ x.gone ∈ s.xs ∧ atI s.xs x.gone = k ∧ s.xs.length = 4 ∧ (4 : Int) ∉ s.xs) {A : Option Addr} {c : Nat} (hd : Holds w w.heap.size A (nums [x.G.ep])) :
    Calls Tryz.prog 49 #[.pointer (some ⟨x.a, 0, none⟩), .int .i64 15, .int .i64 6, .slice A 1 c] w fun e w' => ∃ (A' : Option Addr) (c' : Nat) (T' : Nat → Nat), e = .returned (.tuple #[.int .i64 0, .slice A' 2 c']) ∧ 2 ≤ c' ∧ Arr B T' w' { x with q := nextQ x.q (15 : Nat), f := nextQ x.q (15 : Nat), N := x.N + 1, G := GS.put { x.G with m := 0, ep := x.G.ep + 1, fil := true } k 4, L := x.L.map (mvS k) } ∧ Goes T w T' w' ∧ RowK T' w' A' [4, x.G.ep + 1] :=
  doCmd (y := { x with q := nextQ x.q (15 : Nat), f := nextQ x.q (15 : Nat), N := x.N + 1, G := GS.put { x.G with m := 0, ep := x.G.ep + 1, fil := true } k 4, L := x.L.map (mvS k) }) (cl := 15) (l := [x.G.ep]) (m := [4, x.G.ep + 1]) h (by have := ho.N; omega) ho.fq (by omega) (ho.q0 _) (fun k => by have := ho.qa k; omega) (kd := 6) ⟨by omega, by omega⟩ 98 (by omega) kind_6 rfl hd (fun n hn => by rw [List.mem_singleton] at hn; rw [hn]; exact ⟨by omega, by omega⟩)
    (fun n hn => by simp only [List.mem_cons, List.not_mem_nil, or_false] at hn; rcases hn with rfl | rfl <;> exact ⟨by omega, by omega⟩) (by simp) ⟨rfl, rfl, rfl⟩
    fun T2 W2 h2 => mswap h2 k hk4 hm1 hh hf hep hL hall _ _ _ _ _ _ _
theorem doDone (h : Arr B T w x) (ho : OkQ x) (hf : x.G.fil = true) (hep : 0 ≤ x.G.ep ∧ x.G.ep < 1000) {A : Option Addr} {c : Nat} (hd : Holds w w.heap.size A (nums [x.G.ep])) :
    Calls Tryz.prog 49 #[.pointer (some ⟨x.a, 0, none⟩), .int .i64 15, .int .i64 7, .slice A 1 c] w fun e w' => ∃ (A' : Option Addr) (c' : Nat) (T' : Nat → Nat), e = .returned (.tuple #[.int .i64 0, .slice A' 1 c']) ∧ 1 ≤ c' ∧ Arr B T' w' { x with q := nextQ x.q (15 : Nat), f := nextQ x.q (15 : Nat), N := x.N + 1, G := { x.G with ep := x.G.ep + 1, hole := -1, fil := false, gone := -1 } } ∧ Goes T w T' w' ∧ RowK T' w' A' [x.G.ep + 1] :=
  doCmd (y := { x with q := nextQ x.q (15 : Nat), f := nextQ x.q (15 : Nat), N := x.N + 1, G := { x.G with ep := x.G.ep + 1, hole := -1, fil := false, gone := -1 } }) (cl := 15) (l := [x.G.ep]) (m := [x.G.ep + 1]) h (by have := ho.N; omega) ho.fq (by omega) (ho.q0 _) (fun k => by have := ho.qa k; omega) (kd := 7) ⟨by omega, by omega⟩ 99 (by omega) kind_7 rfl hd (fun n hn => by rw [List.mem_singleton] at hn; rw [hn]; exact ⟨by omega, by omega⟩)
    (fun n hn => by rw [List.mem_singleton] at hn; rw [hn]; exact ⟨by omega, by omega⟩) (by simp) ⟨rfl, rfl, rfl⟩
    fun T2 W2 h2 => mclose h2 hf hep _ _ _ _ _ _ _
end
end Go.Proofs.YtopbojifllnckaaGreatDoor
namespace Go.Proofs.YtopbojifllnckaaGreatDoor
open Go.RowKit
attribute [local irreducible] wpQuiet
/-- What the servers have when i of a stripe's fragments were written. -/
def putC (dn : Nat → Bool) (C : Nat → List Fr) (t : SS) (j : Nat) (F : List ByteArray) : Nat → Nat → List Fr
  | 0 => C
  | i + 1 => if dn (onN t j i) = true then putC dn C t j F i else upd (putC dn C t j F i) (onN t j i) (putC dn C t j F i (onN t j i) ++ [⟨j, i, F.getD i ⟨#[]⟩⟩])
/-- How many of them were refused. -/
def refu (dn : Nat → Bool) (t : SS) (j : Nat) : Nat → Nat
  | 0 => 0
  | i + 1 => if dn (onN t j i) = true then refu dn t j i + 1 else refu dn t j i
theorem refu_mono (dn : Nat → Bool) (t : SS) (j : Nat) {a b : Nat} (h : a ≤ b) : refu dn t j a ≤ refu dn t j b := by
  induction b with
  | zero => rw [show a = 0 by omega]; exact Nat.le_refl _
  | succ b ih =>
    rcases Nat.lt_or_ge b a with h1 | h1
    · rw [show a = b + 1 by omega]
      exact Nat.le_refl _
    · have := ih h1
      show refu dn t j a ≤ (if dn (onN t j b) = true then refu dn t j b + 1 else refu dn t j b)
      by_cases hh : dn (onN t j b) = true
      · rw [if_pos hh]; omega
      · rw [if_neg hh]; omega
theorem putC_mem {dn : Nat → Bool} {C : Nat → List Fr} {t : SS} {j : Nat} {F : List ByteArray} {n : Nat} : ∀ {i : Nat} {f : Fr}, f ∈ putC dn C t j F i n → f ∈ C n ∨ (f.st = j ∧ f.ix < i)
  | 0, f, h => .inl h
  | i + 1, f, h => by
    unfold putC at h
    split at h
    · rcases putC_mem h with h | ⟨h1, h2⟩
      · exact .inl h
      · exact .inr ⟨h1, by omega⟩
    · by_cases e : n = onN t j i
      · subst e
        rw [upd_same, List.mem_append, List.mem_singleton] at h
        rcases h with h | rfl
        · rcases putC_mem h with h | ⟨h1, h2⟩
          · exact .inl h
          · exact .inr ⟨h1, by omega⟩
        · exact .inr ⟨rfl, by show i < i + 1; omega⟩
      · rw [upd_other _ _ e] at h
        rcases putC_mem h with h | ⟨h1, h2⟩
        · exact .inl h
        · exact .inr ⟨h1, by omega⟩
theorem putC_len {dn : Nat → Bool} {C : Nat → List Fr} {t : SS} {j : Nat} {F : List ByteArray} {n : Nat} : ∀ {i : Nat}, (putC dn C t j F i n).length ≤ (C n).length + i
  | 0 => Nat.le_refl _
  | i + 1 => by
    have ih := putC_len (dn := dn) (C := C) (t := t) (j := j) (F := F) (n := n) (i := i)
    unfold putC
    split
    · omega
    · by_cases e : n = onN t j i
      · subst e
        rw [upd_same, List.length_append, List.length_singleton]
        omega
      · rw [upd_other _ _ e]
        omega
theorem putC_look {dn : Nat → Bool} {C : Nat → List Fr} {t : SS} {j i : Nat} {F : List ByteArray} {n : Nat} (h : ∀ f ∈ C n, f.st ≠ j) : look (putC dn C t j F i n) j i = none := by
  unfold look
  rw [Option.map_eq_none_iff, List.find?_eq_none]
  intro f hf
  simp only [isAt, Bool.and_eq_true, decide_eq_true_eq]
  rcases putC_mem hf with h1 | ⟨h1, h2⟩
  · exact fun e => h f h1 e.1
  · omega
/-- Values that lie in no block of the array. -/
def RowV (T : Nat → Nat) (w : World) (A : Option Addr) (vs : List Value) : Prop := 0 < vs.length → ∃ ad, A = some ad ∧ ad.block < w.heap.size ∧ T ad.block = 0 ∧ ∀ (j : Nat) u, vs[j]? = some u → w.cell? (ad.add j) = some u
theorem not_empty {s : ByteArray} (h : s.size ≠ 0) : s.toList.isEmpty = false := by
  rw [Lib.toList_data]
  cases hd : s.data.toList with
  | nil =>
    exact absurd (by show s.data.size = 0; rw [← Array.length_toList, hd]; rfl) h
  | cons a l => rfl
section
variable {B : Nat} {T : Nat → Nat} {w w' : World} {x : X}
theorem RowV.goes {T' : Nat → Nat} {A : Option Addr} {J : List Value} (h : RowV T w A J) (g : Goes T w T' w') : RowV T' w' A J := fun hn => by
  obtain ⟨ad, e, hb, hz, hc⟩ := h hn
  have hk := g.only.block ad.block hb (by simp [hz])
  exact ⟨ad, e, Nat.lt_of_lt_of_le hb g.only.size, g.free _ hb hz, fun j u hu => (World.cell?_of_block (by rw [block_add]; exact hk)).trans (hc j u hu)⟩
theorem RowV.own {e : TypeId} {A : Option Addr} {c n base : Nat} {J : List Value} (h : w.ownsRow base e 1 (.slice A n c) n J) (hT : ∀ k, base ≤ k → T k = 0) : RowV T w A J := fun hn => by
  obtain ⟨h1, _, h3⟩ := own_holdsS h
  obtain ⟨ad, e, hb, hc⟩ := h1 hn
  exact ⟨ad, e, hb, hT _ (h3 ad e), hc⟩
/-- Where Write's loop stands. -/
def WrRel (B : Nat) (T : Nat → Nat) (w : World) (y : X) (C : Nat → List Fr) (A : Option Addr) (F : List ByteArray) (wr : World) : Prop :=
  ∃ T', Arr B T' wr { y with C := C } ∧ Goes T w T' wr ∧ RowV T' wr A (strs F)
set_option maxRecDepth 100000 in
set_option maxHeartbeats 3200000 in
theorem aWrite_no (h : Arr B T w x) (s : ByteArray) (hs : s.size = 0 ∨ 1536 < s.size) : Calls Tryz.prog 15 #[.pointer (some ⟨x.a, 0, none⟩), .int .i64 3, .string s, .int .i64 (-1)] w fun e w' => e = .returned (.tuple #[.int .i64 0, .int .i64 2]) ∧ Below w.heap.size w w' := by
  have hm := hid (aMost h)
  have hl := h.alt
  generalize x.a = a at hm hl
  clear h
  by_cases h0 : s.size = 0
  · have e : s = ⟨#[]⟩ := by
      apply ByteArray.ext
      exact Array.eq_empty_of_size_eq_zero h0
    subst e
    clear hs h0
    go_enter Tryz.func15, Tryz.ntmps15
    go_wp2_with fail
    go_ret2
    exact ⟨rfl, Below.refl _ _⟩
  · have h1 : 1536 < s.size := by omega
    have d1 : decide ((1536 : Int) < (s.size : Int)) = true := by simp; omega
    have d2 : s.toList.isEmpty = false := not_empty h0
    clear hs h0
    go_enter Tryz.func15, Tryz.ntmps15
    go_wp2_with fail
    refine hm.out.mono ?_
    rintro e w' ⟨rfl, rfl⟩
    go_wp2_with fail
    go_ret2
    exact ⟨rfl, Below.refl _ _⟩
end
end Go.Proofs.YtopbojifllnckaaGreatDoor
