/- The map of bits in memory: words of 64 bits; has, put, Get. -/
import Derived.Test.YtafndflddlieiaaDoorRows
import Derived.Test.YtafndflddlieiaaDoorBase
import Derived.WalkMore
import Derived.ScopeJumps
import Derived.BigQuiet
import Derived.BigRegion
import Derived.Deep.QuietTactic
import Derived.Laws.BitsAllLaws
import Derived.Laws.BytesArg
import Derived.Deep.RegionWith
import Derived.Deep.RegionHeld3
import Derived.Deep.RegionLaw
namespace Go.Proofs.YtafndflddlieiaaDoor
open Go.RowKit
attribute [local irreducible] wpQuiet

/-- A word of 64 bits as Go's number. -/
def U (x : BitVec 64) : Int := (x.toNat : Int)
theorem U_nonneg (x : BitVec 64) : 0 ≤ U x := Int.natCast_nonneg _
theorem U_lt (x : BitVec 64) : U x < 18446744073709551616 := by have := x.isLt; unfold U; omega
theorem U_inj {x y : BitVec 64} : U x = U y ↔ x = y := by
  unfold U
  constructor
  · intro h; exact BitVec.eq_of_toNat_eq (by omega)
  · intro h; rw [h]

/-- The words of a map in memory: block b holds n and the words W. -/
def cellsW (n : Nat) (W : Nat → BitVec 64) : Array Value := (Value.int .i64 n :: (List.range 64).map fun j => Value.int .u64 (U (W j))).toArray
theorem cellsW_get (n : Nat) (W : Nat → BitVec 64) {j : Nat} (hj : j < 64) : (cellsW n W)[j + 1]? = some (.int .u64 (U (W j))) := by
  simp [cellsW, hj]
def MapIs (w : World) (b n : Nat) (W : Nat → BitVec 64) : Prop := Blk w b 65 (cellsW n W)
theorem MapIs.e0 {w : World} {b n : Nat} {W : Nat → BitVec 64} (h : MapIs w b n W) : w.cell? ⟨b, 0, none⟩ = some (.int .i64 n) := by
  have := Blk.cell h 0
  rw [this]; rfl
theorem MapIs.e1 {w : World} {b n : Nat} {W : Nat → BitVec 64} (h : MapIs w b n W) {j : Nat} (hj : j < 64) : w.cell? ⟨b, 1 + j, none⟩ = some (.int .u64 (U (W j))) := by
  have := Blk.cell h (j + 1)
  rw [show 1 + j = j + 1 by omega, this, cellsW_get n W hj]

theorem has_nil (x : Int) (w : World) : Calls Tryd.prog 30 #[.pointer none, .int .i64 x] w fun e w' => e = .returned (.bool false) ∧ w = w' := by
  go_enter Tryd.func30, Tryd.ntmps30
  go_wp2_with fail
  go_ret
  exact ⟨rfl, rfl⟩
def hasB (n : Nat) (x : Int) : Bool := decide (0 ≤ x) && decide (x < n)
theorem has_any {b n : Nat} {W : Nat → BitVec 64} {w : World} (h : Hid (MapIs w b n W)) (x : Int) :
    Calls Tryd.prog 30 #[.pointer (some ⟨b, 0, none⟩), .int .i64 x] w fun e w' => e = .returned (.bool (hasB n x)) ∧ w = w' := by
  have e0 := h.out.e0
  by_cases h1 : 0 ≤ x
  · go_enter Tryd.func30, Tryd.ntmps30
    go_wp2_with fail
    go_ret
    exact ⟨by simp [hasB, h1], rfl⟩
  · have hd : decide (0 ≤ x) = false := by simpa using h1
    go_enter Tryd.func30, Tryd.ntmps30
    go_wp2_with fail
    go_ret
    exact ⟨by simp [hasB, hd], rfl⟩

/-! ### bits of words -/
theorem U_or (x y : BitVec 64) : bits .or .u64 (U x) (U y) = U (x ||| y) := by
  unfold U; rw [u64_or_nat _ _ x.isLt y.isLt, BitVec.toNat_or]
theorem U_and (x y : BitVec 64) : bits .and .u64 (U x) (U y) = U (x &&& y) := by
  unfold U; rw [u64_and_nat _ _ x.isLt y.isLt, BitVec.toNat_and]
theorem U_andNot (x y : BitVec 64) : bits .andNot .u64 (U x) (U y) = U (x &&& ~~~y) := by
  unfold U; rw [u64_andNot_nat _ _ x.isLt y.isLt, BitVec.toNat_and, BitVec.toNat_not]
def bitOf (r : Nat) : BitVec 64 := 1#64 <<< r
theorem U_one (r : Nat) : IntKind.u64.wrap (2 ^ r) = U (bitOf r) := by
  unfold U bitOf
  rw [IntKind.wrap_u64, BitVec.toNat_shiftLeft, Nat.shiftLeft_eq]
  simp
attribute [local go_sem] U_or U_and U_andNot U_one

def bitW (W : Nat → BitVec 64) (x : Nat) : Bool := (W (x / 64)).getLsbD (x % 64)
def setW (W : Nat → BitVec 64) (x : Nat) (on : Bool) : Nat → BitVec 64 := fun j => if j = x / 64 then (if on then W j ||| bitOf (x % 64) else W j &&& ~~~(bitOf (x % 64))) else W j
theorem bitOf_get (r i : Nat) (hr : r < 64) : (bitOf r).getLsbD i = decide (i = r) := by
  unfold bitOf
  rw [BitVec.getLsbD_shiftLeft]
  by_cases h : i = r
  · subst h; simp [hr]
  · by_cases h1 : i < r
    · simp [h, h1]
    · have : i - r ≠ 0 := by omega
      simp [h, BitVec.getLsbD_one, this]
theorem bit_setW (W : Nat → BitVec 64) (x : Nat) (on : Bool) (y : Nat) : bitW (setW W x on) y = if y = x then on else bitW W y := by
  unfold bitW setW
  have hr : x % 64 < 64 := Nat.mod_lt _ (by omega)
  have hy : y % 64 < 64 := Nat.mod_lt _ (by omega)
  by_cases hj : y / 64 = x / 64
  · rw [if_pos hj]
    by_cases hyx : y = x
    · subst hyx
      rw [if_pos rfl]
      cases on
      · simp [BitVec.getLsbD_and, BitVec.getLsbD_not, bitOf_get _ _ hr]
      · simp [BitVec.getLsbD_or, bitOf_get _ _ hr]
    · rw [if_neg hyx]
      have hne : y % 64 ≠ x % 64 := by omega
      cases on
      · simp only [Bool.false_eq_true, ↓reduceIte, BitVec.getLsbD_and, BitVec.getLsbD_not, bitOf_get _ _ hr, hne, hy, decide_true, decide_false, Bool.not_false, Bool.and_true]
      · simp [BitVec.getLsbD_or, bitOf_get _ _ hr, hne]
  · rw [if_neg hj, if_neg (by rintro rfl; exact hj rfl)]

theorem cellsW_set (n : Nat) (W : Nat → BitVec 64) {x : Nat} (on : Bool) (v : BitVec 64) (hv : v = setW W x on (x / 64)) :
    (cellsW n W).setIfInBounds (1 + x / 64) (.int .u64 (U v)) = cellsW n (setW W x on) := by
  subst hv
  apply Array.ext
  · simp [cellsW]
  · intro i h1 h2
    rw [Array.getElem_setIfInBounds (by simp [cellsW] at h2 ⊢; omega)]
    simp only [cellsW, List.getElem_toArray]
    cases i with
    | zero =>
      rw [if_neg (by omega)]
      rfl
    | succ i =>
      have hi : i < 64 := by simp [cellsW] at h2; omega
      simp only [List.getElem_cons_succ, List.getElem_map, List.getElem_range]
      by_cases hij : 1 + x / 64 = i + 1
      · rw [if_pos hij, show i = x / 64 by omega]
      · rw [if_neg hij]
        congr 2
        unfold setW
        rw [if_neg (by omega)]

set_option maxHeartbeats 800000 in
theorem put_any {b n : Nat} {W : Nat → BitVec 64} {w : World} (h : Hid (MapIs w b n W)) (x : Nat) (hx : x < 4096) (on : Bool) :
    Calls Tryd.prog 31 #[.pointer (some ⟨b, 0, none⟩), .int .i64 x, .bool on] w fun e w' => e = .returned (.tuple #[]) ∧ MapIs w' b n (setW W x on) ∧ Only (fun k => k = b) w w' := by
  have e1 := h.out.e1 (j := x / 64) (by omega)
  have f1 := Blk.frozen h.out (1 + x / 64)
  cases on with
  | true =>
    go_enter Tryd.func31, Tryd.ntmps31
    go_wp2_with fail
    go_region
    go_wp2_with fail
    go_end0
    refine ⟨rfl, ?_, ((Only.refl (fun k => k = b) w).setCell (p := ⟨b, 1 + x / 64, none⟩) (.inl rfl) _).drew⟩
    have := Blk.set_ h.out (1 + x / 64) (.int .u64 (U (W (x / 64) ||| bitOf (x % 64))))
    rw [cellsW_set n W true _ (by simp [setW])] at this
    exact this
  | false =>
    go_enter Tryd.func31, Tryd.ntmps31
    go_wp2_with fail
    go_region
    go_wp2_with fail
    go_end0
    refine ⟨rfl, ?_, ((Only.refl (fun k => k = b) w).setCell (p := ⟨b, 1 + x / 64, none⟩) (.inl rfl) _).drew⟩
    have := Blk.set_ h.out (1 + x / 64) (.int .u64 (U (W (x / 64) &&& ~~~(bitOf (x % 64)))))
    rw [cellsW_set n W false _ (by simp [setW])] at this
    exact this
end Go.Proofs.YtafndflddlieiaaDoor
