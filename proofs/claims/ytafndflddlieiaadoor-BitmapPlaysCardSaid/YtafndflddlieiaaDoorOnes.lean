/- math/bits.OnesCount64, walked. -/
import Derived.Test.YtafndflddlieiaaDoorPop
namespace Go.Proofs.YtafndflddlieiaaDoor
open Go.RowKit
attribute [local irreducible] wpQuiet

theorem U_div (x : BitVec 64) (k : Nat) : U x / ((2 ^ k : Nat) : Int) = U (x >>> k) := by
  unfold U
  rw [BitVec.toNat_ushiftRight, Nat.shiftRight_eq_div_pow]
  omega
theorem U_div2 (x : BitVec 64) : U x / (2 : Int) = U (x >>> 1) := U_div x 1
theorem U_div4 (x : BitVec 64) : U x / (4 : Int) = U (x >>> 2) := U_div x 2
theorem U_div16 (x : BitVec 64) : U x / (16 : Int) = U (x >>> 4) := U_div x 4
theorem U_div256 (x : BitVec 64) : U x / (256 : Int) = U (x >>> 8) := U_div x 8
theorem U_div65536 (x : BitVec 64) : U x / (65536 : Int) = U (x >>> 16) := U_div x 16
theorem U_div32 (x : BitVec 64) : U x / (4294967296 : Int) = U (x >>> 32) := U_div x 32
theorem U_and5 (x : BitVec 64) : bits .and .u64 (U x) (6148914691236517205 : Int) = U (x &&& 6148914691236517205#64) := U_and x 6148914691236517205#64
theorem U_and3 (x : BitVec 64) : bits .and .u64 (U x) (3689348814741910323 : Int) = U (x &&& 3689348814741910323#64) := U_and x 3689348814741910323#64
theorem U_andf (x : BitVec 64) : bits .and .u64 (U x) (1085102592571150095 : Int) = U (x &&& 1085102592571150095#64) := U_and x 1085102592571150095#64
theorem U_add (x y : BitVec 64) : IntKind.u64.wrap (U x + U y) = U (x + y) := by
  unfold U
  rw [IntKind.wrap_u64, BitVec.toNat_add]
  omega
def st1 (x : BitVec 64) : BitVec 64 := (x >>> 1 &&& 6148914691236517205#64) + (x &&& 6148914691236517205#64)
def st2 (x : BitVec 64) : BitVec 64 := (x >>> 2 &&& 3689348814741910323#64) + (x &&& 3689348814741910323#64)
def st3 (x : BitVec 64) : BitVec 64 := (x >>> 4 + x) &&& 1085102592571150095#64
def st4 (x : BitVec 64) : BitVec 64 := x + x >>> 8
def st5 (x : BitVec 64) : BitVec 64 := x + x >>> 16
def st6 (x : BitVec 64) : BitVec 64 := x + x >>> 32
theorem U_st1 (x : BitVec 64) : U ((x >>> 1 &&& 6148914691236517205#64) + (x &&& 6148914691236517205#64)) = U (st1 x) := rfl
theorem U_st2 (x : BitVec 64) : U ((x >>> 2 &&& 3689348814741910323#64) + (x &&& 3689348814741910323#64)) = U (st2 x) := rfl
theorem U_st3 (x : BitVec 64) : U ((x >>> 4 + x) &&& 1085102592571150095#64) = U (st3 x) := rfl
theorem U_st4 (x : BitVec 64) : U (x + x >>> 8) = U (st4 x) := rfl
theorem U_st5 (x : BitVec 64) : U (x + x >>> 16) = U (st5 x) := rfl
theorem U_st6 (x : BitVec 64) : U (x + x >>> 32) = U (st6 x) := rfl
theorem low_seven (x : Nat) (h : x < 9223372036854775808) : bits .and .i64 (x : Int) 127 = ((x % 128 : Nat) : Int) := by
  show IntKind.i64.wrap ((BitVec.ofInt 64 (x : Int) &&& BitVec.ofInt 64 ((127 : Nat) : Int)).toNat : Int) = _
  rw [BitVec.toNat_and, ofInt_u64 x (by omega), ofInt_u64 127 (by omega), Nat.and_two_pow_sub_one_eq_mod x 7, IntKind.wrap_i64]
  omega

theorem M0 : mk 85 8 = 6148914691236517205 := by rfl
theorem M1 : mk 51 8 = 3689348814741910323 := by rfl
theorem M2 : mk 15 8 = 1085102592571150095 := by rfl
theorem and_le_mask (a m : Nat) : a &&& m ≤ m := Nat.and_le_right
theorem st1_nat (x : BitVec 64) : (st1 x).toNat = S1 8 x.toNat := by
  unfold st1 S1
  rw [BitVec.toNat_add, BitVec.toNat_and, BitVec.toNat_and, BitVec.toNat_ushiftRight, Nat.shiftRight_eq_div_pow, M0]
  have h1 := and_le_mask (x.toNat / 2 ^ 1) 6148914691236517205
  have h2 := and_le_mask x.toNat 6148914691236517205
  exact Nat.mod_eq_of_lt (by simp at *; omega)
theorem st2_nat (x : BitVec 64) : (st2 x).toNat = S2 8 x.toNat ∧ (st2 x).toNat ≤ 7378697629483820646 := by
  unfold st2 S2
  rw [BitVec.toNat_add, BitVec.toNat_and, BitVec.toNat_and, BitVec.toNat_ushiftRight, Nat.shiftRight_eq_div_pow, M1]
  have h1 := and_le_mask (x.toNat / 2 ^ 2) 3689348814741910323
  have h2 := and_le_mask x.toNat 3689348814741910323
  have e := Nat.mod_eq_of_lt (a := (x.toNat / 2 ^ 2 &&& 3689348814741910323) + (x.toNat &&& 3689348814741910323)) (b := 2 ^ 64) (by simp at *; omega)
  refine ⟨e, ?_⟩
  refine Nat.le_trans (Nat.le_of_eq e) ?_
  omega
theorem st3_nat (x : BitVec 64) (h : x.toNat ≤ 7378697629483820646) : (st3 x).toNat = S3 8 x.toNat := by
  unfold st3 S3
  rw [BitVec.toNat_and, BitVec.toNat_add, BitVec.toNat_ushiftRight, Nat.shiftRight_eq_div_pow, M2, Nat.mod_eq_of_lt (by omega)]
  rfl
theorem PK_le (k X : Nat) : PK k X ≤ 8 * mk 1 k := by
  induction k generalizing X with
  | zero => exact Nat.le_refl _
  | succ k ih =>
    have h1 := cnt_le8 X
    have h2 := ih (X / 256)
    simp only [PK, mk]
    omega
theorem ones_nat (x : BitVec 64) : (st6 (st5 (st4 (st3 (st2 (st1 x)))))).toNat % 128 = cntN 64 x.toNat ∧ (st6 (st5 (st4 (st3 (st2 (st1 x)))))).toNat < 9223372036854775808 := by
  obtain ⟨e2, l2⟩ := st2_nat (st1 x)
  have e3 := st3_nat (st2 (st1 x)) l2
  rw [e2, st1_nat, all_pop] at e3
  generalize st3 (st2 (st1 x)) = y at *
  have hb : PK 8 x.toNat ≤ 578721382704613384 := by
    have := PK_le 8 x.toNat
    rw [show mk 1 8 = 72340172838076673 by rfl] at this
    omega
  have h4 : (st4 y).toNat = PK 8 x.toNat + PK 8 x.toNat / 256 := by
    unfold st4
    rw [BitVec.toNat_add, BitVec.toNat_ushiftRight, Nat.shiftRight_eq_div_pow, e3]
    omega
  have h5 : (st5 (st4 y)).toNat = (st4 y).toNat + (st4 y).toNat / 65536 := by
    unfold st5
    rw [BitVec.toNat_add, BitVec.toNat_ushiftRight, Nat.shiftRight_eq_div_pow]
    omega
  have h6 : (st6 (st5 (st4 y))).toNat = (st5 (st4 y)).toNat + (st5 (st4 y)).toNat / 4294967296 := by
    unfold st6
    rw [BitVec.toNat_add, BitVec.toNat_ushiftRight, Nat.shiftRight_eq_div_pow]
    omega
  refine ⟨(fold_pop x.toNat _ _ _ h4 h5 h6).1, ?_⟩
  omega
attribute [local go_sem] U_or U_and U_andNot U_one U_div2 U_div4 U_div16 U_div256 U_div65536 U_div32 U_and5 U_and3 U_andf U_add U_st1 U_st2 U_st3 U_st4 U_st5 U_st6

theorem ones_any (x : BitVec 64) (w : World) :
    Calls Tryd.prog 32 #[.int .u64 (U x)] w fun e w' => e = .returned (.int .i64 (cntN 64 x.toNat)) ∧ w = w' := by
  obtain ⟨h1, h2⟩ := ones_nat x
  have H1 := hid h1
  have H2 := hid h2
  clear h1 h2
  go_enter Tryd.func32, Tryd.ntmps32
  go_wp2_with fail
  go_ret
  refine ⟨?_, rfl⟩
  generalize st6 (st5 (st4 (st3 (st2 (st1 x))))) = y at *
  have e : wrap64 (U y) = (y.toNat : Int) := by unfold U; exact IntWalk.wrap64_in _ (by have := H2.out; omega)
  show Ending.returned (.int .i64 (bits .and .i64 (wrap64 (U y)) 127)) = _
  rw [e, low_seven _ H2.out, H1.out]
end Go.Proofs.YtafndflddlieiaaDoor
