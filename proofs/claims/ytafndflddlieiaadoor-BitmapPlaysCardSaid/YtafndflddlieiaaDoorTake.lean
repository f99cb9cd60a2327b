/- row, Take, Free. -/
import Derived.Test.YtafndflddlieiaaDoorRuns
namespace Go.Proofs.YtafndflddlieiaaDoor
open Go.RowKit
attribute [local irreducible] wpQuiet
attribute [local go_sem high] run_mxI run_mnI

def rowW (W : Nat → BitVec 64) (a : Nat) (on : Bool) : Nat → Nat → BitVec 64
  | 0 => W
  | k + 1 => setW (rowW W a on k) (a + k) on
theorem bit_rowW (W : Nat → BitVec 64) (a : Nat) (on : Bool) (k y : Nat) : bitW (rowW W a on k) y = if a ≤ y ∧ y < a + k then on else bitW W y := by
  induction k with
  | zero => rw [if_neg (by omega)]; rfl
  | succ k ih =>
    simp only [rowW]
    rw [bit_setW, ih]
    by_cases h : y = a + k
    · rw [if_pos h, if_pos (by omega)]
    · rw [if_neg h]
      by_cases h2 : a ≤ y ∧ y < a + k
      · rw [if_pos h2, if_pos (by omega)]
      · rw [if_neg h2, if_neg (by omega)]
section
variable {b n : Nat} {W : Nat → BitVec 64} {w : World}
set_option maxHeartbeats 400000 in
theorem row_any (h : Hid (MapIs w b n W)) {a l : Nat} (hal : a + l ≤ 4096) (on : Bool) :
    Calls Tryd.prog 33 #[.pointer (some ⟨b, 0, none⟩), .agg #[.int .i64 a, .int .i64 l], .bool on] w fun e w' => e = .returned (.tuple #[]) ∧ MapIs w' b n (rowW W a on l) ∧ Only (fun k => k = b) w w' := by
  have hlt := Blk.lt h.out
  have hm0 := hid (Blk.alloc h.out (.cells #[.int .i64 a, .int .i64 l] 37))
  have hbx0 := hid (Blk.new w 37 #[.int .i64 a, .int .i64 l])
  go_enter Tryd.func33, Tryd.ntmps33
  go_wp2_with fail
  go_loopw [9] (fun v wr => ∃ k : Nat, k ≤ l ∧ v = .int .i64 k ∧ Hid (MapIs wr b n (rowW W a on k) ∧ Blk wr w.heap.size 37 #[.int .i64 a, .int .i64 l] ∧ Only (fun k => k = b) w wr)) (fun v _ => l - (intOf v).toNat)
  case atStart => exact ⟨0, Nat.zero_le _, rfl, hm0.out, hbx0.out, (Only.refl _ _).alloc _⟩
  case round =>
    obtain ⟨k, hk, rfl, hI⟩ := hrel
    have c0 : wr.cell? ⟨w.heap.size, 0, none⟩ = some (.int .i64 a) := by rw [hI.out.2.1.cell]; rfl
    by_cases hkl : k < l
    · have hP := hid (put_any (hid hI.out.1) (a + k) (by omega) on)
      rw [Int.natCast_add] at hP
      go_wp2_with fail
      refine hP.out.mono ?_
      rintro e w2 ⟨rfl, hm, ho⟩
      have hb2 : Blk w2 w.heap.size 37 #[.int .i64 a, .int .i64 l] := hI.out.2.1.only ho (by omega)
      have HM := hid hm
      have HO := hid ho
      have HB := hid hb2
      clear hm ho hb2
      go_wp2_with fail
      go_roundw
      case rel => exact ⟨k + 1, by omega, by go_num, hid ⟨HM.out, HB.out, hI.out.2.2.trans HO.out⟩⟩
      case measure => simp [intOf]; omega
    · obtain rfl : k = l := by omega
      go_wp2_with fail
      go_end0
      exact ⟨rfl, hI.out.1, hI.out.2.2⟩

/-! ### Take -/
theorem take_nil (x : Int) (w : World) : Calls Tryd.prog 13 #[.pointer none, .int .i64 x] w fun e w' => e = .returned (.tuple #[.int .i64 0, .int .i64 1]) ∧ w = w' := by
  go_enter Tryd.func13, Tryd.ntmps13
  go_wp2_with fail
  go_ret2
  exact ⟨rfl, rfl⟩
theorem take_bad {x : Int} (hx : x < 1) : Calls Tryd.prog 13 #[.pointer (some ⟨b, 0, none⟩), .int .i64 x] w fun e w' => e = .returned (.tuple #[.int .i64 0, .int .i64 1]) ∧ w = w' := by
  go_enter Tryd.func13, Tryd.ntmps13
  go_wp2_with fail
  go_ret2
  exact ⟨rfl, rfl⟩
theorem take_full (h : Hid (MapIs w b n W)) (hT : Hid (TabIs w)) (hn : n ≤ 4096) {x : Int} (hx : 1 ≤ x) (hf : findR x (rowsF (isP W false) (isP W true) n 0) < 0) :
    Calls Tryd.prog 13 #[.pointer (some ⟨b, 0, none⟩), .int .i64 x] w fun e w' => e = .returned (.tuple #[.int .i64 0, .int .i64 5]) ∧ Below w.heap.size w w' := by
  have hF := hid (find_any h hT hn x)
  obtain ⟨r, hr⟩ : ∃ r, r = findR x (rowsF (isP W false) (isP W true) n 0) := ⟨_, rfl⟩
  rw [← hr] at hF hf
  clear hr
  go_enter Tryd.func13, Tryd.ntmps13
  go_wp2_with fail
  refine hF.out.mono ?_
  rintro e w2 ⟨rfl, hb⟩
  have HB := hid hb
  clear hb
  go_wp2_with fail
  go_ret2
  exact ⟨rfl, HB.out⟩
theorem take_yes (h : Hid (MapIs w b n W)) (hT : Hid (TabIs w)) (hn : n ≤ 4096) {x r : Nat} (hx : 1 ≤ x) (hf : findR x (rowsF (isP W false) (isP W true) n 0) = r) (hr : r + x ≤ n) :
    Calls Tryd.prog 13 #[.pointer (some ⟨b, 0, none⟩), .int .i64 x] w fun e w' => e = .returned (.tuple #[.int .i64 r, .int .i64 0]) ∧ MapIs w' b n (rowW W r true x) ∧ Only (fun k => k = b) w w' := by
  have hF := hid (find_any h hT hn x)
  rw [hf] at hF
  have hlt := Blk.lt h.out
  clear hf
  go_enter Tryd.func13, Tryd.ntmps13
  go_wp2_with fail
  refine hF.out.mono ?_
  rintro e w2 ⟨rfl, hb⟩
  have HB := hid hb
  have hM := hid (Blk.below h.out hb hlt)
  clear hb
  go_wp2_with fail
  refine (row_any (a := r) (l := x) hM (by omega) true).mono ?_
  rintro e w3 ⟨rfl, hm, ho⟩
  have HM := hid hm
  have HO := hid ho
  clear hm ho
  go_wp2_with fail
  go_ret2
  exact ⟨rfl, HM.out, (Only.of_below HB.out fun k hk _ => hk).trans HO.out⟩

/-! ### Free -/
theorem free_nil (a l : Int) (w : World) : Calls Tryd.prog 15 #[.pointer none, .agg #[.int .i64 a, .int .i64 l]] w fun e w' => e = .returned (.int .i64 1) ∧ Below w.heap.size w w' := by
  have hb := hid ((Below.refl w.heap.size w).alloc (Nat.le_refl _) (.cells #[.int .i64 a, .int .i64 l] 37))
  have hx := Blk.new w 37 #[.int .i64 a, .int .i64 l]
  obtain ⟨wb, hwb⟩ : ∃ wb, wb = w.alloc (.cells #[.int .i64 a, .int .i64 l] 37) := ⟨_, rfl⟩
  rw [← hwb] at hb hx
  have e0 : wb.cell? ⟨w.heap.size, 0, none⟩ = some (.int .i64 a) := by rw [hx.cell]; rfl
  have HW := hid hwb
  clear hwb hx
  go_enter Tryd.func15, Tryd.ntmps15
  go_wp2_with fail
  rw [← HW.out]
  go_quiet ((go_at_call 30; exact Calls.quiet_of_same ((has_nil a _).mono fun e w' ⟨h1, h2⟩ => ⟨h1, h2.symm⟩)))
  go_wp2_with fail
  go_ret
  exact ⟨rfl, below_drewN hb.out _⟩
set_option maxHeartbeats 400000 in
theorem free_bad (h : Hid (MapIs w b n W)) {a l : Int} (hc : hasB n a = false ∨ l < 1 ∨ (n : Int) - a < l) (hn : n ≤ 4096) :
    Calls Tryd.prog 15 #[.pointer (some ⟨b, 0, none⟩), .agg #[.int .i64 a, .int .i64 l]] w fun e w' => e = .returned (.int .i64 1) ∧ Below w.heap.size w w' := by
  have hlt := Blk.lt h.out
  have hb := hid ((Below.refl w.heap.size w).alloc (Nat.le_refl _) (.cells #[.int .i64 a, .int .i64 l] 37))
  have hx := Blk.new w 37 #[.int .i64 a, .int .i64 l]
  have hM := hid (Blk.alloc h.out (.cells #[.int .i64 a, .int .i64 l] 37))
  obtain ⟨wb, hwb⟩ : ∃ wb, wb = w.alloc (.cells #[.int .i64 a, .int .i64 l] 37) := ⟨_, rfl⟩
  rw [← hwb] at hb hx hM
  have e0 : wb.cell? ⟨w.heap.size, 0, none⟩ = some (.int .i64 a) := by rw [hx.cell]; rfl
  have e1 : wb.cell? ⟨w.heap.size, 1, none⟩ = some (.int .i64 l) := by rw [hx.cell]; rfl
  have n0 : wb.cell? ⟨b, 0, none⟩ = some (.int .i64 n) := MapIs.e0 hM.out
  have HW := hid hwb
  clear hwb hx
  cases hh : hasB n a with
  | false =>
    have HH := hid hh
    clear hc hh
    go_enter Tryd.func15, Tryd.ntmps15
    go_wp2_with fail
    rw [← HW.out]
    go_quiet ((go_at_call 30; exact Calls.quiet_of_same ((has_any (hid (Blk.drewN hM.out _)) a).mono fun e w' ⟨h1, h2⟩ => ⟨h1.trans (by rw [HH.out]), h2.symm⟩)))
    go_wp2_with fail
    go_ret
    exact ⟨rfl, below_drewN hb.out _⟩
  | true =>
    have HH := hid hh
    have ha : 0 ≤ a ∧ a < n := by simpa [hasB] using hh
    obtain ⟨ha0, han⟩ := ha
    by_cases hl : l < 1
    · have hd : decide (l < 1) = true := decide_eq_true hl
      clear hc hh
      go_enter Tryd.func15, Tryd.ntmps15
      go_wp2_with fail
      rw [← HW.out]
      go_quiet ((go_at_call 30; exact Calls.quiet_of_same ((has_any (hid (Blk.drewN hM.out _)) a).mono fun e w' ⟨h1, h2⟩ => ⟨h1.trans (by rw [HH.out]), h2.symm⟩)))
      go_wp2_with fail
      go_ret
      exact ⟨rfl, below_drewN hb.out _⟩
    · have hd : decide (l < 1) = false := decide_eq_false hl
      have hgt : (n : Int) - a < l := by
        rcases hc with hc | hc | hc
        · rw [hh] at hc; cases hc
        · exact absurd hc hl
        · exact hc
      have hwr : IntKind.i64.wrap ((n : Int) - a) = (n : Int) - a := by rw [IntKind.wrap_i64]; omega
      have hd2 : decide ((n : Int) - a < l) = true := decide_eq_true hgt
      clear hc hh
      go_enter Tryd.func15, Tryd.ntmps15
      go_wp2_with fail
      rw [← HW.out]
      go_quiet ((go_at_call 30; exact Calls.quiet_of_same ((has_any (hid (Blk.drewN hM.out _)) a).mono fun e w' ⟨h1, h2⟩ => ⟨h1.trans (by rw [HH.out]), h2.symm⟩)))
      go_wp2_with fail
      go_ret
      exact ⟨rfl, below_drewN hb.out _⟩
def FreePost (b n : Nat) (W : Nat → BitVec 64) (a l : Nat) (w : World) (e : Ending) (w' : World) : Prop :=
  (nextF (isP W false) n a < a + l ∧ e = .returned (.int .i64 7) ∧ Below w.heap.size w w') ∨ (a + l ≤ nextF (isP W false) n a ∧ e = .returned (.int .i64 0) ∧ MapIs w' b n (rowW W a false l) ∧ Only (fun k => k = b) w w')
set_option maxHeartbeats 800000 in
theorem free_ok (h : Hid (MapIs w b n W)) (hT : Hid (TabIs w)) (hn : n ≤ 4096) {a l : Nat} (hl : 1 ≤ l) (hal : a + l ≤ n) :
    Calls Tryd.prog 15 #[.pointer (some ⟨b, 0, none⟩), .agg #[.int .i64 a, .int .i64 l]] w (FreePost b n W a l w) := by
  have hlt := Blk.lt h.out
  have hb := hid ((Below.refl w.heap.size w).alloc (Nat.le_refl _) (.cells #[.int .i64 a, .int .i64 l] 37))
  have hx := hid (Blk.new w 37 #[.int .i64 a, .int .i64 l])
  have hM := hid (Blk.alloc h.out (.cells #[.int .i64 a, .int .i64 l] 37))
  have hTb := hid (hT.out.keep (Below.heap_alloc w (.cells #[.int .i64 a, .int .i64 l] 37) 0 hT.out.lt))
  obtain ⟨wb, hwb⟩ : ∃ wb, wb = w.alloc (.cells #[.int .i64 a, .int .i64 l] 37) := ⟨_, rfl⟩
  rw [← hwb] at hb hx hM hTb
  have e0 : wb.cell? ⟨w.heap.size, 0, none⟩ = some (.int .i64 a) := by rw [hx.out.cell]; rfl
  have e1 : wb.cell? ⟨w.heap.size, 1, none⟩ = some (.int .i64 l) := by rw [hx.out.cell]; rfl
  have n0 : wb.cell? ⟨b, 0, none⟩ = some (.int .i64 n) := MapIs.e0 hM.out
  have HW := hid hwb
  have HH := hid (show hasB n (a : Int) = true from has_true (by omega))
  have hd : decide ((l : Int) < 1) = false := decide_eq_false (by omega)
  have hwr : IntKind.i64.wrap ((n : Int) - (a : Int)) = (n : Int) - (a : Int) := by rw [IntKind.wrap_i64]; omega
  have hd2 : decide ((n : Int) - (a : Int) < (l : Int)) = false := decide_eq_false (by omega)
  have hws : IntKind.i64.wrap ((a : Int) + (l : Int)) = (a : Int) + (l : Int) := by rw [IntKind.wrap_i64]; omega
  obtain ⟨r, hr⟩ : ∃ r, r = nextF (isP W false) n a := ⟨_, rfl⟩
  have hN : Hid (∀ k, Calls Tryd.prog 34 #[.pointer (some ⟨b, 0, none⟩), .int .i64 a, .bool false] (wb.drewN k) fun e w' => e = .returned (.int .i64 r) ∧ ∃ j, w' = (wb.drewN k).drewN j) := hid fun k => by
    rw [hr]
    exact next_any (hid (Blk.drewN hM.out k)) (hid (hTb.out.keep rfl)) hn (by omega) false
  clear hwb
  unfold FreePost
  rw [← hr]
  clear hr
  go_enter Tryd.func15, Tryd.ntmps15
  go_wp2_with fail
  rw [← HW.out]
  go_quiet ((go_at_call 30; exact Calls.quiet_of_same ((has_any (hid (Blk.drewN hM.out _)) (a : Int)).mono fun e w' ⟨h1, h2⟩ => ⟨h1.trans (by rw [HH.out]), h2.symm⟩)))
  obtain ⟨wc, hwc⟩ : ∃ wc, wc = wb.drewN nq := ⟨_, rfl⟩
  have hN2 : Hid (∀ k, Calls Tryd.prog 34 #[.pointer (some ⟨b, 0, none⟩), .int .i64 a, .bool false] (wc.drewN k) fun e w' => e = .returned (.int .i64 r) ∧ ∃ j, w' = (wc.drewN k).drewN j) := hid fun k => by
    rw [hwc, World.drewN_drewN]
    exact hN.out _
  have hx2 : Hid (Blk wc w.heap.size 37 #[.int .i64 a, .int .i64 l]) := by rw [hwc]; exact hid (Blk.drewN hx.out nq)
  have hM2 : Hid (MapIs wc b n W) := by rw [hwc]; exact hid (Blk.drewN hM.out nq)
  have hb2 : Hid (Below w.heap.size w wc) := by rw [hwc]; exact hid (below_drewN hb.out nq)
  have e0' : wc.cell? ⟨w.heap.size, 0, none⟩ = some (.int .i64 a) := by rw [hx2.out.cell]; rfl
  have e1' : wc.cell? ⟨w.heap.size, 1, none⟩ = some (.int .i64 l) := by rw [hx2.out.cell]; rfl
  rw [← hwc]
  clear hwc e0 e1 n0
  by_cases hlt2 : r < a + l
  · have ht : decide ((r : Int) < (a : Int) + (l : Int)) = true := decide_eq_true (by omega)
    go_wp2_with fail
    go_quiet ((go_at_call 34; exact Calls.quiet_of (hN2.out _)))
    go_wp2_with fail
    go_ret
    exact .inl ⟨hlt2, rfl, below_drewN hb2.out _⟩
  · have ht : decide ((r : Int) < (a : Int) + (l : Int)) = false := decide_eq_false (by omega)
    go_wp2_with fail
    go_quiet ((go_at_call 34; exact Calls.quiet_of (hN2.out _)))
    go_wp2_with fail
    refine (row_any (a := a) (l := l) (hid (Blk.drewN hM2.out _)) (by omega) false).mono ?_
    rintro e w3 ⟨rfl, hm, ho⟩
    have HM := hid hm
    have HO := hid ho
    clear hm ho
    go_wp2_with fail
    go_ret
    exact .inr ⟨by omega, rfl, HM.out, ((Only.of_below hb2.out fun k hk _ => hk).drewN _).trans HO.out⟩
end
end Go.Proofs.YtafndflddlieiaaDoor
