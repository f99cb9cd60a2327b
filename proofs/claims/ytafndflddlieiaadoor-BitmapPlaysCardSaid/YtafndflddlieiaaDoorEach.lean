/- each with Find's closure; Find. -/
import Derived.Test.YtafndflddlieiaaDoorNext
namespace Go.Proofs.YtafndflddlieiaaDoor
open Go.RowKit
attribute [local irreducible] wpQuiet
attribute [local go_sem high] run_mxI run_mnI

/-! ### rows, in plain words -/
def rowsG (p q : Nat → Bool) (n : Nat) : Nat → Nat → List (Nat × Nat)
  | 0, _ => []
  | k + 1, a => if nextF p n a < n then (nextF p n a, nextF q n (nextF p n a) - nextF p n a) :: rowsG p q n k (nextF q n (nextF p n a)) else []
/-- The rows of places from a on where p holds (q is its opposite). -/
def rowsF (p q : Nat → Bool) (n a : Nat) : List (Nat × Nat) := rowsG p q n (n + 1 - a) a
theorem row_gt {p q : Nat → Bool} (hq : ∀ y, q y = !p y) {n a : Nat} (ha : a ≤ n) (h : nextF p n a < n) : a ≤ nextF p n a ∧ nextF p n a < nextF q n (nextF p n a) ∧ nextF q n (nextF p n a) ≤ n := by
  obtain ⟨h1, _, _, h4⟩ := nextF_spec p ha
  obtain ⟨g1, g2, _, g4⟩ := nextF_spec q (n := n) (a := nextF p n a) (by omega)
  refine ⟨h1, ?_, g2⟩
  rcases Nat.lt_or_ge (nextF p n a) (nextF q n (nextF p n a)) with hl | hl
  · exact hl
  · have e : nextF q n (nextF p n a) = nextF p n a := by omega
    have := g4 (by omega)
    rw [e, hq, h4 h] at this
    cases this
theorem rowsG_more {p q : Nat → Bool} (hq : ∀ y, q y = !p y) (n : Nat) : ∀ (k j a : Nat), a ≤ n → n - a < k → n - a < j → rowsG p q n k a = rowsG p q n j a := by
  intro k
  induction k with
  | zero => intro j a _ h; omega
  | succ k ih =>
    intro j a ha h1 h2
    cases j with
    | zero => omega
    | succ j =>
      simp only [rowsG]
      by_cases hs : nextF p n a < n
      · rw [if_pos hs, if_pos hs]
        obtain ⟨g1, g2, g3⟩ := row_gt hq ha hs
        rw [ih j _ g3 (by omega) (by omega)]
      · rw [if_neg hs, if_neg hs]
theorem rowsF_step {p q : Nat → Bool} (hq : ∀ y, q y = !p y) {n a : Nat} (ha : a ≤ n) :
    rowsF p q n a = if nextF p n a < n then (nextF p n a, nextF q n (nextF p n a) - nextF p n a) :: rowsF p q n (nextF q n (nextF p n a)) else [] := by
  unfold rowsF
  rw [show n + 1 - a = (n - a) + 1 by omega]
  simp only [rowsG]
  by_cases hs : nextF p n a < n
  · rw [if_pos hs, if_pos hs]
    obtain ⟨g1, g2, g3⟩ := row_gt hq ha hs
    rw [rowsG_more hq n (n - a) (n + 1 - nextF q n (nextF p n a)) _ g3 (by omega) (by omega)]
  · rw [if_neg hs, if_neg hs]
theorem isP_not (W : Nat → BitVec 64) (on : Bool) : ∀ y, isP W (!on) y = !isP W on y := by
  intro y
  unfold isP
  cases bitW W y <;> cases on <;> rfl
def findR (x : Int) : List (Nat × Nat) → Int
  | [] => -1
  | r :: l => if 1 ≤ x ∧ x ≤ (r.2 : Int) then r.1 else findR x l

section
variable {w : World} {p q : Nat}
theorem find1_yes {x a l v : Int} (hp : Hid (Blk w p 3 #[.int .i64 x])) (hq : Hid (Blk w q 3 #[.int .i64 v])) (h1 : 1 ≤ x) (h2 : x ≤ l) (ha : 0 ≤ a) :
    Calls Tryd.prog 36 #[.agg #[.int .i64 a, .int .i64 l], .pointer (some ⟨p, 0, none⟩), .pointer (some ⟨q, 0, none⟩)] w fun e w' => e = .returned (.bool false) ∧ Blk w' q 3 #[.int .i64 a] ∧ Only (fun k => k = q) w w' := by
  have e1 : w.cell? ⟨p, 0, none⟩ = some (.int .i64 x) := by rw [hp.out.cell]; rfl
  have e2 : w.cell? ⟨q, 0, none⟩ = some (.int .i64 v) := by rw [hq.out.cell]; rfl
  have f2 := hq.out.frozen 0
  have l1 := hp.out.lt
  have l2 := hq.out.lt
  have hd : decide (a < 0) = false := decide_eq_false (by omega)
  go_enter Tryd.func36, Tryd.ntmps36
  go_wp2_with fail
  go_ret
  exact ⟨rfl, (hq.out.set_ 0 (.int .i64 a)).alloc _, ((Only.refl (fun k => k = q) w).setCell (p := ⟨q, 0, none⟩) (.inl rfl) _).alloc _⟩
theorem find1_no {x a l v : Int} (hp : Hid (Blk w p 3 #[.int .i64 x])) (hq : Hid (Blk w q 3 #[.int .i64 v])) (h1 : ¬ (1 ≤ x ∧ x ≤ l)) (hv : v < 0) :
    Calls Tryd.prog 36 #[.agg #[.int .i64 a, .int .i64 l], .pointer (some ⟨p, 0, none⟩), .pointer (some ⟨q, 0, none⟩)] w fun e w' => e = .returned (.bool true) ∧ Below w.heap.size w w' := by
  have e1 : w.cell? ⟨p, 0, none⟩ = some (.int .i64 x) := by rw [hp.out.cell]; rfl
  have e2 : w.cell? ⟨q, 0, none⟩ = some (.int .i64 v) := by rw [hq.out.cell]; rfl
  have l1 := hp.out.lt
  have l2 := hq.out.lt
  by_cases hx : 1 ≤ x
  · have hx2 : ¬ x ≤ l := fun h => h1 ⟨hx, h⟩
    clear h1
    go_enter Tryd.func36, Tryd.ntmps36
    go_wp2_with fail
    go_ret
    exact ⟨rfl, (Below.refl _ _).alloc (Nat.le_refl _) _⟩
  · clear h1
    go_enter Tryd.func36, Tryd.ntmps36
    go_wp2_with fail
    go_ret
    exact ⟨rfl, (Below.refl _ _).alloc (Nat.le_refl _) _⟩
variable {b n : Nat} {W : Nat → BitVec 64}
theorem MapIs.only {w' : World} {S : Nat → Prop} (h : MapIs w b n W) (ho : Only S w w') (hb : ¬ S b) : MapIs w' b n W := Blk.only h ho hb
theorem TabIs.only {w' : World} {S : Nat → Prop} (h : TabIs w) (ho : Only S w w') (hb : ¬ S 0) : TabIs w' := h.keep (ho.block 0 h.lt hb)
set_option maxHeartbeats 1000000 in
theorem each_find {x : Int} (h : Hid (MapIs w b n W)) (hT : Hid (TabIs w)) (hn : n ≤ 4096) (hp : Hid (Blk w p 3 #[.int .i64 x])) (hq : Hid (Blk w q 3 #[.int .i64 (-1)])) (hqp : p ≠ q) (hqb : b ≠ q) (hq0 : 0 ≠ q) :
    Calls Tryd.prog 35 #[.pointer (some ⟨b, 0, none⟩), .bool false, .func (.func 36) #[] #[.pointer (some ⟨p, 0, none⟩), .pointer (some ⟨q, 0, none⟩)]] w fun e w' =>
      e = .returned (.tuple #[]) ∧ Blk w' q 3 #[.int .i64 (findR x (rowsF (isP W false) (isP W true) n 0))] ∧ Only (fun k => k = q) w w' := by
  have hN := hid (next_any h hT hn (Nat.zero_le n) false)
  obtain ⟨R, hR⟩ : ∃ R, R = findR x (rowsF (isP W false) (isP W true) n 0) := ⟨_, rfl⟩
  rw [← hR]
  have HR := hid hR
  clear hR
  go_enter Tryd.func35, Tryd.ntmps35
  go_wp2_with fail
  refine hN.out.mono ?_
  rintro e w1 ⟨rfl, j1, rfl⟩
  go_wp2_with fail
  go_loopw [6] (fun v wr => ∃ c : Nat, c ≤ n ∧ v = .int .i64 (nextF (isP W false) n c : Nat) ∧ Hid (R = findR x (rowsF (isP W false) (isP W true) n c) ∧ Only (fun k => k = q) w wr ∧ Blk wr q 3 #[.int .i64 (-1)])) (fun v _ => n + 1 - (intOf v).toNat)
  case atStart => exact ⟨0, Nat.zero_le _, rfl, HR.out, (Only.refl _ _).drewN j1, hq.out.drewN j1⟩
  case round =>
    obtain ⟨c, hc, rfl, hI⟩ := hrel
    have hM := hid (h.out.only hI.out.2.1 hqb)
    have hTT := hid (hT.out.only hI.out.2.1 hq0)
    have hP := hid (hp.out.only hI.out.2.1 hqp)
    have hQ := hid hI.out.2.2
    have e0 := hM.out.e0
    have hst := hid (rowsF_step (isP_not W false) hc)
    obtain ⟨s, hs⟩ : ∃ s, s = nextF (isP W false) n c := ⟨_, rfl⟩
    have hsn := (nextF_spec (isP W false) hc).2.1
    have hgt := hid (fun h => row_gt (isP_not W false) hc h)
    rw [← hs] at hst hsn hgt ⊢
    clear hs
    by_cases hlt : s < n
    · have hg := hgt.out hlt
      have hN2 := hid (next_any hM hTT hn (Nat.le_of_lt hlt) true)
      simp only [Bool.not_false] at hg hst
      obtain ⟨e, he⟩ : ∃ e, e = nextF (isP W true) n s := ⟨_, rfl⟩
      have hst2 := hst.out
      rw [if_pos hlt] at hst2
      rw [← he] at hg hN2 hst2
      have HST := hid hst2
      clear he hst2 hgt
      go_wp2_with fail
      refine hN2.out.mono ?_
      rintro r w2 ⟨rfl, j2, rfl⟩
      have hcast : (((e - s : Nat)) : Int) = (e : Int) - (s : Int) := by omega
      by_cases hx : 1 ≤ x ∧ x ≤ (e : Int) - (s : Int)
      · have HX := hid hx
        have HC := hid hcast
        clear hx hcast
        go_wp2_with fail
        refine (find1_yes (hid (hP.out.drewN j2)) (hid (hQ.out.drewN j2)) HX.out.1 HX.out.2 (by omega)).mono ?_
        rintro r w3 ⟨rfl, hb3, ho3⟩
        have HB3 := hid hb3
        have HO3 := hid ho3
        clear hb3 ho3
        go_wp2_with fail
        refine bodyPost_ret (v := .tuple #[]) (by simp [results, Tryd.results35, go_sem]) rfl ?_
        refine ⟨rfl, ?_, ((hI.out.2.1.drewN j2).trans HO3.out)⟩
        have : R = (s : Int) := by
          rw [hI.out.1, HST.out]
          simp only [findR]
          rw [if_pos (by rw [HC.out]; exact HX.out)]
        rw [this]
        exact HB3.out
      · have HX := hid hx
        have HC := hid hcast
        clear hx hcast
        go_wp2_with fail
        refine (find1_no (hid (hP.out.drewN j2)) (hid (hQ.out.drewN j2)) HX.out (by decide)).mono ?_
        rintro r w3 ⟨rfl, hb3⟩
        have hlt3 := hQ.out.lt
        have ho3 : Only (fun k => k = q) wr w3 := ((Only.refl (fun k => k = q) wr).drewN j2).trans (Only.of_below hb3 fun k hk _ => hk)
        have HO3 := hid (hI.out.2.1.trans ho3)
        have hQ3 := hid ((hQ.out.drewN j2).below hb3 hlt3)
        have hM3 := hid (h.out.only HO3.out hqb)
        have hT3 := hid (hT.out.only HO3.out hq0)
        have hN3 := hid (next_any hM3 hT3 hn hg.2.2 false)
        clear hb3 ho3 hlt3
        go_wp2_with fail
        refine hN3.out.mono ?_
        rintro r w4 ⟨rfl, j4, rfl⟩
        have hgn := (nextF_spec (isP W false) hg.2.2).1
        go_wp2_with fail
        go_roundw
        case rel =>
          refine ⟨e, hg.2.2, rfl, hid ⟨?_, HO3.out.drewN j4, hQ3.out.drewN j4⟩⟩
          rw [hI.out.1, HST.out]
          simp only [findR]
          rw [if_neg (by rw [HC.out]; exact HX.out)]
        case measure => simp [intOf]; omega
    · obtain rfl : s = n := by omega
      go_wp2_with fail
      go_end0
      refine ⟨rfl, ?_, hI.out.2.1⟩
      have hst2 := hst.out
      rw [if_neg hlt] at hst2
      simp only [Bool.not_false] at hst2
      have : R = -1 := by rw [hI.out.1, hst2]; rfl
      rw [this]
      exact hQ.out
set_option maxHeartbeats 400000 in
theorem find_any (h : Hid (MapIs w b n W)) (hT : Hid (TabIs w)) (hn : n ≤ 4096) (x : Int) :
    Calls Tryd.prog 16 #[.pointer (some ⟨b, 0, none⟩), .int .i64 x] w fun e w' => e = .returned (.int .i64 (findR x (rowsF (isP W false) (isP W true) n 0))) ∧ Below w.heap.size w w' := by
  obtain ⟨w1, hw1⟩ : ∃ w1, w1 = (w.alloc (.cells #[.int .i64 x] 3)).alloc (.cells #[.int .i64 (-1)] 3) := ⟨_, rfl⟩
  have HW := hid hw1
  have hB1 := hid (show Below w.heap.size w w1 by rw [hw1]; exact ((Below.refl _ _).alloc (Nat.le_refl _) _).alloc (by simp) _)
  have hp := hid (show Blk w1 w.heap.size 3 #[.int .i64 x] by rw [hw1]; exact (Blk.new _ _ _).alloc _)
  have hq := hid (show Blk w1 (w.heap.size + 1) 3 #[.int .i64 (-1)] by rw [hw1]; have := Blk.new (w.alloc (.cells #[.int .i64 x] 3)) 3 #[.int .i64 (-1)]; simpa using this)
  have hlt := Blk.lt h.out
  have hE := hid (each_find (x := x) (hid (Blk.below h.out hB1.out hlt)) (hid (hT.out.below hB1.out hT.out.lt)) hn hp hq (by omega) (by omega) (by omega))
  clear hw1
  go_enter Tryd.func16, Tryd.ntmps16
  go_wp2_with fail
  rw [← HW.out]
  refine hE.out.mono ?_
  rintro e w2 ⟨rfl, hb2, ho2⟩
  have e1 : w2.cell? ⟨w.heap.size + 1, 0, none⟩ = some (.int .i64 (findR x (rowsF (isP W false) (isP W true) n 0))) := by rw [hb2.cell]; rfl
  have HO := hid ho2
  clear hb2 ho2
  go_wp2_with fail
  go_ret
  exact ⟨rfl, hB1.out.trans (HO.out.below hB1.out.size (fun k hk e => by omega))⟩
theorem each_nil (on : Bool) (f : Value) (w : World) : Calls Tryd.prog 35 #[.pointer none, .bool on, f] w fun e w' => e = .returned (.tuple #[]) ∧ w = w' := by
  go_enter Tryd.func35, Tryd.ntmps35
  go_wp2_with fail
  exact bodyPost_ret (v := .tuple #[]) (by simp [results, Tryd.results35, go_sem]) rfl ⟨rfl, rfl⟩
theorem find_nil (x : Int) (w : World) : Calls Tryd.prog 16 #[.pointer none, .int .i64 x] w fun e w' => e = .returned (.int .i64 (-1)) ∧ Below w.heap.size w w' := by
  go_enter Tryd.func16, Tryd.ntmps16
  go_wp2_with fail
  refine (each_nil _ _ _).mono ?_
  rintro e w2 ⟨rfl, rfl⟩
  go_wp2_with fail
  go_ret
  exact ⟨rfl, ((Below.refl _ _).alloc (Nat.le_refl _) _).alloc (by simp) _⟩
end
end Go.Proofs.YtafndflddlieiaaDoor
