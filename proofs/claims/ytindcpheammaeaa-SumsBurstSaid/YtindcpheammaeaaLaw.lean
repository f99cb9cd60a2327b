/- Two texts one behind the other; a burst of bits; plain laws of the register. -/
import Derived.Test.YtindcpheammaeaaLin
namespace Go.Proofs.Ytindcpheammaeaa

theorem stepB_xor (c d : BitVec 32) (b : UInt8) : stepB (c ^^^ d) b = stepB c b ^^^ eightB d := by
  unfold stepB
  rw [show c ^^^ d ^^^ byteB b = (c ^^^ byteB b) ^^^ d by ac_rfl, lin_eightB.add]
theorem runB_xor (l : List UInt8) : ∀ c d, runB (c ^^^ d) l = runB c l ^^^ zerosN l.length d := by
  induction l with
  | nil => intro c d; rfl
  | cons b l ih =>
    intro c d
    rw [runB_cons, runB_cons, stepB_xor, ih]
    rfl
theorem not_xor (a b : BitVec 32) : ~~~(a ^^^ b) = a ^^^ ~~~b := by
  rw [← BitVec.xor_allOnes, ← BitVec.xor_allOnes]
  ac_rfl
/-- The sum of two texts, one behind the other, by their sums. -/
theorem join_sum (l m : List UInt8) : joinB (sumB l) (sumB m) m.length = sumB (l ++ m) := by
  have h : ∀ y : BitVec 32, y = ~~~0#32 ^^^ ~~~y := by
    intro y
    rw [← BitVec.xor_allOnes (x := y), show ~~~0#32 = BitVec.allOnes 32 by decide]
    rw [show BitVec.allOnes 32 ^^^ (y ^^^ BitVec.allOnes 32) = y ^^^ (BitVec.allOnes 32 ^^^ BitVec.allOnes 32) by ac_rfl, BitVec.xor_self, BitVec.xor_zero]
  show zerosN m.length (~~~runB (~~~0#32) l) ^^^ ~~~runB (~~~0#32) m = ~~~runB (~~~0#32) (l ++ m)
  rw [runB_append]
  have k : runB (runB (~~~0#32) l) m = runB (~~~0#32 ^^^ ~~~(runB (~~~0#32) l)) m := congrArg (fun x => runB x m) (h _)
  rw [k, runB_xor, BitVec.xor_comm (runB (~~~0#32) m), not_xor]
/-- .. and by going on. -/
theorem more_sum (l m : List UInt8) : moreB (sumB l) m = sumB (l ++ m) := by
  unfold sumB moreB
  rw [BitVec.not_not, runB_append]

/-! ### a burst -/
theorem bit1_inj (c : BitVec 32) (h : bit1 c = 0#32) : c = 0#32 := by
  rw [bit1_eq] at h
  by_cases h0 : c.getLsbD 0 = true
  · rw [if_pos h0] at h
    have := congrArg (fun x : BitVec 32 => x.getLsbD 31) h
    simp at this
  · rw [if_neg h0, BitVec.xor_zero] at h
    apply BitVec.eq_of_getLsbD_eq
    intro i hi
    rcases Nat.eq_zero_or_pos i with rfl | hp
    · simpa using h0
    · have := congrArg (fun x : BitVec 32 => x.getLsbD (i - 1)) h
      simpa [show 1 + (i - 1) = i by omega] using this
theorem bitsN_inj (n : Nat) : ∀ c, bitsN n c = 0#32 → c = 0#32 := by
  induction n with
  | zero => intro c h; exact h
  | succ n ih => intro c h; exact bit1_inj c (ih _ h)
theorem zerosN_inj (n : Nat) : ∀ c, zerosN n c = 0#32 → c = 0#32 := by
  induction n with
  | zero => intro c h; exact h
  | succ n ih => intro c h; exact bitsN_inj 8 c (ih _ h)

theorem bit1_up (y : BitVec 32) (h : y.toNat < 2147483648) : bit1 (y <<< 1) = y := by
  rw [bit1_eq, if_neg (by simp), BitVec.xor_zero]
  apply BitVec.eq_of_toNat_eq
  rw [BitVec.toNat_ushiftRight, BitVec.toNat_shiftLeft, Nat.shiftLeft_eq, Nat.shiftRight_eq_div_pow]
  omega
theorem bitsN_up (n : Nat) : ∀ y : BitVec 32, y.toNat * 2 ^ n < 4294967296 → bitsN n (y <<< n) = y := by
  induction n with
  | zero => intro y _; show y <<< 0 = y; simp
  | succ n ih =>
    intro y h
    show bitsN n (bit1 (y <<< (n + 1))) = y
    rw [BitVec.shiftLeft_add, bit1_up, ih y (by rw [Nat.pow_succ, ← Nat.mul_assoc] at h; omega)]
    rw [BitVec.toNat_shiftLeft, Nat.shiftLeft_eq]
    rw [Nat.pow_succ, ← Nat.mul_assoc] at h
    omega
theorem eightB_up (y : BitVec 32) (h : y.toNat < 16777216) : eightB (y <<< 8) = y := bitsN_up 8 y (by omega)

/-- Four bytes are taken as the register itself. -/
theorem byte_split (z : Nat) : BitVec.ofNat 32 z = byteB (UInt8.ofNat z) ^^^ (BitVec.ofNat 32 (z / 256)) <<< 8 := by
  have e : (BitVec.ofNat 32 (z / 256)) <<< 8 = BitVec.ofNat 32 (z / 256 * 256) := by
    apply BitVec.eq_of_toNat_eq
    rw [BitVec.toNat_shiftLeft, Nat.shiftLeft_eq, BitVec.toNat_ofNat, BitVec.toNat_ofNat]
    omega
  have e2 : byteB (UInt8.ofNat z) = BitVec.ofNat 32 (z % 256) := by unfold byteB; simp
  rw [e, e2]
  apply BitVec.eq_of_getLsbD_eq
  intro i hi
  rw [BitVec.getLsbD_xor]
  simp only [BitVec.getLsbD_ofNat, hi, decide_true, Bool.true_and]
  rw [show (256 : Nat) = 2 ^ 8 from rfl, Nat.testBit_mod_two_pow, ← Nat.shiftRight_eq_div_pow, ← Nat.shiftLeft_eq, Nat.testBit_shiftLeft, Nat.testBit_shiftRight]
  by_cases h8 : i < 8
  · simp [h8, show ¬ 8 ≤ i by omega]
  · simp [show ¬ i < 8 from h8, show 8 ≤ i by omega, show 8 + (i - 8) = i by omega]
theorem zerosN_byte (n : Nat) (c : BitVec 32) (z : Nat) (h : z < 4294967296) : zerosN (n + 1) (c ^^^ BitVec.ofNat 32 z) = zerosN n (stepB c (UInt8.ofNat z) ^^^ BitVec.ofNat 32 (z / 256)) := by
  show zerosN n (eightB (c ^^^ BitVec.ofNat 32 z)) = _
  rw [byte_split z, ← BitVec.xor_assoc, lin_eightB.add, eightB_up _ (by rw [BitVec.toNat_ofNat]; omega)]
  rfl
theorem zeros_four (c x : BitVec 32) : runB c (fourB x) = zerosN 4 (c ^^^ x) := by
  have hx : x = BitVec.ofNat 32 x.toNat := by simp
  have hl := x.isLt
  conv => rhs; rw [hx]
  rw [zerosN_byte 3 _ _ hl, zerosN_byte 2 _ _ (by omega), zerosN_byte 1 _ _ (by omega), zerosN_byte 0 _ _ (by omega)]
  have h0 : x.toNat / 256 / 256 / 256 / 256 = 0 := by omega
  rw [h0, Nat.div_div_eq_div_mul, Nat.div_div_eq_div_mul]
  show _ = stepB _ _ ^^^ 0#32
  rw [BitVec.xor_zero]
  rfl

end Go.Proofs.Ytindcpheammaeaa
