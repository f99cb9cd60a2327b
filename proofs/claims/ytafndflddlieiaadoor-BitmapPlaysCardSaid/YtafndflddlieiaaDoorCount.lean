/- New, Set, Get, Count. -/
import Derived.Test.YtafndflddlieiaaDoorOnes
namespace Go.Proofs.YtafndflddlieiaaDoor
open Go.RowKit
attribute [local irreducible] wpQuiet
attribute [local go_sem high] run_mxI run_mnI

def wordsA (W : Nat → BitVec 64) : Array Value := ((List.range 64).map fun j => Value.int .u64 (U (W j))).toArray
theorem wordsA_get (W : Nat → BitVec 64) {j : Nat} (hj : j < 64) : (wordsA W)[j]? = some (.int .u64 (U (W j))) := by simp [wordsA, hj]
theorem run_words {w : World} {b n : Nat} {W : Nat → BitVec 64} (h : MapIs w b n W) : (loadVar 63 ⟨b, 1, none⟩).run Tryd.prog w = .ok (.agg (wordsA W)) w := by
  have hl : (loadCells ⟨b, 1, none⟩ (wordsA W).toList.length).run Tryd.prog w = .ok (wordsA W).toList.toArray w :=
    run_loadCells_list (P := Tryd.prog) w ⟨b, 1, none⟩ (wordsA W).toList (fun j v hv => by
      have hj : j < 64 := by
        have := (List.getElem?_eq_some_iff.1 hv).1
        simpa [wordsA] using this
      have hadd : (⟨b, 1, none⟩ : Addr).add j = ⟨b, 1 + j, none⟩ := by unfold Addr.add; split <;> simp_all
      rw [hadd, h.e1 hj]
      have := wordsA_get W hj
      rw [← Array.getElem?_toList] at this
      rw [← this]
      exact hv)
  have hs : (Tryd.prog.info? 63).map (·.size) = some 64 := by kernel_rfl
  have hu : Tryd.prog.underlying 63 = some (.array 64 62) := Tryd.underlying63
  cases hq : Tryd.prog.info? 63 with
  | none => simp [hq] at hs
  | some i =>
    have hs' : i.size = 64 := by simpa [hq] using hs
    have hagg : (isAgg 63).run Tryd.prog w = .ok true w := by
      unfold isAgg
      rw [Sem.run_bind, run_underlying hu w]
      rfl
    have h64 : (wordsA W).toList.length = 64 := by simp [wordsA]
    rw [h64] at hl
    simp [loadVar, Sem.run_bind, hagg, sizeOf, typeInfo, hq, hs', hl]
theorem run_wordAt (W : Nat → BitVec 64) {k : Nat} (hk : k < 64) (w : World) : (Instr.index 63 (.agg (wordsA W)) (.int .i64 k)).run Tryd.prog w = .ok (.int .u64 (U (W k))) w := by
  have := wordsA_get W hk
  have hs : (wordsA W).size = 64 := by simp [wordsA]
  have hb : ((k : Int) < 64) := by omega
  have h1 : Tryd.prog.cellsOf 62 = 1 := by kernel_rfl
  have ha : (asIntOf (.int .i64 (k : Int))).run Tryd.prog w = .ok (.i64, (k : Int)) w := rfl
  simp [Instr.index, run_underlying Tryd.underlying63, ha, hb, part, isAgg, run_underlying Tryd.underlying62, this]

theorem wpList_load_words {ops : Array Oper} {rest : List Oper} {o : Oper} {a : Act} {w : World} {Q : Exit → Act → World → Prop} {b n : Nat} {W : Nat → BitVec 64} (hgd : o.guard = none) (x : Operand) (ho : o.op = .load 63 x)
    (hx : a.eval x = .pointer (some ⟨b, 1, none⟩)) (hm : MapIs w b n W) (h : wpList Tryd.prog ops Q rest (a.put o.dst (.agg (wordsA W))) w) : wpList Tryd.prog ops Q (o :: rest) a w :=
  wpList_plain hgd fun K hK => by
    unfold Oper.wp execOp
    simp only [ho, hx, Instr.loadAt, Instr.sureAddr, Sem.run_bind, Sem.run_pure, Result.andThen_ok, run_words hm]
    exact hK _ _ h
def zeroW : Array Value := cellsW 0 fun _ => 0#64
theorem zero65 (w : World) : (zeroValue 65).run Tryd.prog w = .ok (.agg zeroW) w := by kernel_rfl
theorem zeroW_ne : zeroW ≠ #[] := fun h => by have := congrArg Array.size h; simp [zeroW, cellsW] at this
theorem zeroW_set (N : Nat) : zeroW.setIfInBounds 0 (.int .i64 N) = cellsW N fun _ => 0#64 := by
  simp [zeroW, cellsW]
theorem new_any {m : Int} {N : Nat} {w : World} (hN : mnI (mxI m 0) 4096 = (N : Int)) :
    Calls Tryd.prog 9 #[.int .i64 m] w fun e w' => e = .returned (.pointer (some ⟨w.heap.size, 0, none⟩)) ∧ MapIs w' w.heap.size N (fun _ => 0#64) ∧ Below w.heap.size w w' := by
  have h1 := zero65
  have h2 := zeroW_ne
  have h3 := zeroW_set N
  go_enter Tryd.func9, Tryd.ntmps9
  go_wp2_with fail
  go_ret
  exact ⟨rfl, Blk.new w 65 (cellsW N (fun _ => 0#64)), (Below.refl _ _).alloc (Nat.le_refl _) _⟩

theorem set_nil (x : Int) (on : Bool) (w : World) : Calls Tryd.prog 10 #[.pointer none, .int .i64 x, .bool on] w fun e w' => e = .returned (.bool false) ∧ w = w' := by
  go_enter Tryd.func10, Tryd.ntmps10
  go_wp2_with fail
  refine (has_nil _ _).mono ?_
  rintro e w1 ⟨rfl, rfl⟩
  go_wp2_with fail
  go_ret
  exact ⟨rfl, rfl⟩
theorem get_nil (x : Int) (w : World) : Calls Tryd.prog 14 #[.pointer none, .int .i64 x] w fun e w' => e = .returned (.bool false) ∧ w = w' := by
  go_enter Tryd.func14, Tryd.ntmps14
  go_wp2_with fail
  refine (has_nil _ _).mono ?_
  rintro e w1 ⟨rfl, rfl⟩
  go_wp2_with fail
  go_ret
  exact ⟨rfl, rfl⟩
theorem count_nil (w : World) : Calls Tryd.prog 12 #[.pointer none] w fun e w' => e = .returned (.int .i64 0) ∧ w = w' := by
  go_enter Tryd.func12, Tryd.ntmps12
  go_wp2_with fail
  go_ret
  exact ⟨rfl, rfl⟩

section
variable {b n : Nat} {W : Nat → BitVec 64} {w : World}
theorem set_no (h : Hid (MapIs w b n W)) {x : Int} (on : Bool) (hx : hasB n x = false) :
    Calls Tryd.prog 10 #[.pointer (some ⟨b, 0, none⟩), .int .i64 x, .bool on] w fun e w' => e = .returned (.bool false) ∧ w = w' := by
  have HH := hid (has_any h x)
  have HX := hid hx
  clear hx
  go_enter Tryd.func10, Tryd.ntmps10
  go_wp2_with fail
  refine HH.out.mono ?_
  rintro e w1 ⟨rfl, rfl⟩
  rw [HX.out]
  go_wp2_with fail
  go_ret
  exact ⟨rfl, rfl⟩
theorem has_true {x : Nat} (hx : x < n) : hasB n (x : Int) = true := by simp [hasB, hx]
theorem set_yes (h : Hid (MapIs w b n W)) {x : Nat} (on : Bool) (hx : x < n) (hn : n ≤ 4096) :
    Calls Tryd.prog 10 #[.pointer (some ⟨b, 0, none⟩), .int .i64 x, .bool on] w fun e w' => e = .returned (.bool true) ∧ MapIs w' b n (setW W x on) ∧ Only (fun k => k = b) w w' := by
  have HH := hid (has_any h (x : Int))
  have HX := hid (has_true hx)
  have HP := hid (put_any h x (by omega) on)
  go_enter Tryd.func10, Tryd.ntmps10
  go_wp2_with fail
  refine HH.out.mono ?_
  rintro e w1 ⟨rfl, rfl⟩
  rw [HX.out]
  go_wp2_with fail
  refine HP.out.mono ?_
  rintro e w1 ⟨rfl, hm, ho⟩
  have HM := hid hm
  have HO := hid ho
  clear hm ho
  go_wp2_with fail
  go_ret
  exact ⟨rfl, HM.out, HO.out⟩
theorem get_no (h : Hid (MapIs w b n W)) {x : Int} (hx : hasB n x = false) :
    Calls Tryd.prog 14 #[.pointer (some ⟨b, 0, none⟩), .int .i64 x] w fun e w' => e = .returned (.bool false) ∧ w = w' := by
  have HH := hid (has_any h x)
  have HX := hid hx
  clear hx
  go_enter Tryd.func14, Tryd.ntmps14
  go_wp2_with fail
  refine HH.out.mono ?_
  rintro e w1 ⟨rfl, rfl⟩
  rw [HX.out]
  go_wp2_with fail
  go_ret
  exact ⟨rfl, rfl⟩
theorem U_one_and (x : BitVec 64) (r : Nat) : bits .and .u64 (U x / 2 ^ r) 1 = (if x.getLsbD r then 1 else 0) := by
  have h1 : U x / 2 ^ r = ((x.toNat / 2 ^ r : Nat) : Int) := by
    unfold U
    rw [Int.natCast_ediv, Int.natCast_pow]
    rfl
  have h2 : x.toNat / 2 ^ r < 18446744073709551616 := Nat.lt_of_le_of_lt (Nat.div_le_self _ _) x.isLt
  have h4 := u64_and_nat _ 1 h2 (by omega)
  rw [Nat.and_one_is_mod] at h4
  rw [h1]
  refine h4.trans ?_
  have h3 : x.getLsbD r = x.toNat.testBit r := rfl
  rw [h3, Nat.testBit_eq_decide_div_mod_eq]
  by_cases h : x.toNat / 2 ^ r % 2 = 1
  · simp [h]
  · have : x.toNat / 2 ^ r % 2 = 0 := by
      generalize x.toNat / 2 ^ r = y at *
      omega
    simp [this]
theorem get_yes (h : Hid (MapIs w b n W)) {x : Nat} (hx : x < n) (hn : n ≤ 4096) :
    Calls Tryd.prog 14 #[.pointer (some ⟨b, 0, none⟩), .int .i64 x] w fun e w' => e = .returned (.bool (bitW W x)) ∧ w = w' := by
  have HH := hid (has_any h (x : Int))
  have HX := hid (has_true hx)
  have e1 := h.out.e1 (j := x / 64) (by omega)
  have hb := U_one_and (W (x / 64)) (x % 64)
  have hw : (W (x / 64)).getLsbD (x % 64) = bitW W x := rfl
  rw [hw] at hb
  obtain ⟨q, hq⟩ : ∃ q, q = bitW W x := ⟨_, rfl⟩
  rw [← hq] at hb ⊢
  clear hw hq
  cases q with
  | true =>
    simp only [↓reduceIte] at hb
    go_enter Tryd.func14, Tryd.ntmps14
    go_wp2_with fail
    refine HH.out.mono ?_
    rintro e w1 ⟨rfl, rfl⟩
    rw [HX.out]
    go_wp2_with fail
    go_ret
    exact ⟨rfl, rfl⟩
  | false =>
    simp only [Bool.false_eq_true, ↓reduceIte] at hb
    go_enter Tryd.func14, Tryd.ntmps14
    go_wp2_with fail
    refine HH.out.mono ?_
    rintro e w1 ⟨rfl, rfl⟩
    rw [HX.out]
    go_wp2_with fail
    go_ret
    exact ⟨rfl, rfl⟩
def cntW (W : Nat → BitVec 64) : Nat → Nat
  | 0 => 0
  | k + 1 => cntW W k + cntN 64 (W k).toNat
theorem cntN_le (k x : Nat) : cntN k x ≤ k := by
  induction k generalizing x with
  | zero => exact Nat.le_refl _
  | succ k ih => have := ih (x / 2); simp only [cntN]; omega
theorem cntW_le (W : Nat → BitVec 64) (k : Nat) : cntW W k ≤ 64 * k := by
  induction k with
  | zero => exact Nat.le_refl _
  | succ k ih => have := cntN_le 64 (W k).toNat; simp only [cntW]; omega
theorem cntW_zero (W : Nat → BitVec 64) : cntW W 0 = 0 := rfl
theorem cntW_succ (W : Nat → BitVec 64) (k : Nat) : cntW W (k + 1) = cntW W k + cntN 64 (W k).toNat := rfl
attribute [local irreducible] cntN cntW
set_option maxRecDepth 100000 in
set_option maxHeartbeats 400000 in
theorem count_any (h : Hid (MapIs w b n W)) :
    Calls Tryd.prog 12 #[.pointer (some ⟨b, 0, none⟩)] w fun e w' => e = .returned (.int .i64 (cntW W 64 : Nat)) ∧ w = w' := by
  obtain ⟨ws, hws⟩ : ∃ ws, ws = wordsA W := ⟨_, rfl⟩
  have HWS := hid hws
  clear hws
  have C0 : cntW W 0 = 0 := cntW_zero W
  have C0 := hid C0
  go_enter Tryd.func12, Tryd.ntmps12
  go_wp2_with (refine wpList_load_words rfl (.tmp 10) rfl rfl h.out ?_; rw [← HWS.out])
  go_loop [3, 12] (fun s i => ∃ k : Nat, k ≤ 64 ∧ i = .int .i64 k ∧ s = .int .i64 (cntW W k : Nat)) (fun _ i => 64 - (intOf i).toNat)
  case atStart => exact ⟨0, by omega, rfl, by rw [C0.out]; rfl⟩
  case round =>
    obtain ⟨k, hk, rfl, rfl⟩ := hrel
    by_cases hkl : k < 64
    · have hi := run_wordAt W hkl
      rw [← HWS.out] at hi
      have HS := hid (cntW_succ W k)
      have hc := cntW_le W k
      have hc2 := cntN_le 64 (W k).toNat
      have HO := hid (ones_any (W k) w)
      obtain ⟨t, ht⟩ : ∃ t, t = cntN 64 (W k).toNat := ⟨_, rfl⟩
      obtain ⟨q, hq⟩ : ∃ q, q = cntW W k := ⟨_, rfl⟩
      rw [← hq] at HS hc ⊢
      rw [← ht] at HS hc2 HO
      clear ht hq
      go_wp2_with fail
      refine HO.out.mono ?_
      rintro e w1 ⟨rfl, rfl⟩
      go_wp2_with fail
      go_round
      case rel => exact ⟨k + 1, by omega, by go_num, by rw [HS.out]; go_num⟩
      case measure => simp [intOf]; omega
    · obtain rfl : k = 64 := by omega
      go_wp2_with fail
      go_ret
      exact ⟨rfl, rfl⟩
end
end Go.Proofs.YtafndflddlieiaaDoor
