/- The register of the sum is linear; zero bytes; what one round of the matrix does. Plain. -/
import Derived.Test.YtindcpheammaeaaPlain
namespace Go.Proofs.Ytindcpheammaeaa

/-! ### the register is linear -/
structure Lin (F : BitVec 32 → BitVec 32) : Prop where
  zero : F 0#32 = 0#32
  add : ∀ x y, F (x ^^^ y) = F x ^^^ F y

theorem neg_and_one (c : BitVec 32) : (-(c &&& 1#32)) = if c.getLsbD 0 then BitVec.allOnes 32 else 0#32 := by
  have h : c &&& 1#32 = if c.getLsbD 0 then 1#32 else 0#32 := by
    apply BitVec.eq_of_getLsbD_eq
    intro i hi
    rw [BitVec.getLsbD_and]
    rcases Nat.eq_zero_or_pos i with rfl | h0
    · cases c.getLsbD 0 <;> simp
    · have h1 : (1#32).getLsbD i = false := by
        rw [BitVec.getLsbD_one]; simp; omega
      rw [h1]
      split
      · rw [h1]; simp
      · simp
  rw [h]
  split <;> decide

theorem bit1_eq (c : BitVec 32) : bit1 c = (c >>> 1) ^^^ (if c.getLsbD 0 then 3988292384#32 else 0#32) := by
  unfold bit1
  rw [neg_and_one]
  split
  · rw [BitVec.and_allOnes]
  · rw [BitVec.and_zero]
theorem lin_bit1 : Lin bit1 := by
  refine ⟨by decide, fun x y => ?_⟩
  rw [bit1_eq, bit1_eq, bit1_eq, BitVec.ushiftRight_xor_distrib, BitVec.getLsbD_xor]
  have hpp : ∀ a b p : BitVec 32, a ^^^ p ^^^ (b ^^^ p) = a ^^^ b := fun a b p => by
    have e : a ^^^ p ^^^ (b ^^^ p) = (a ^^^ b) ^^^ (p ^^^ p) := by ac_rfl
    rw [e, BitVec.xor_self, BitVec.xor_zero]
  cases x.getLsbD 0 <;> cases y.getLsbD 0
  · simp
  · simp; ac_rfl
  · simp; ac_rfl
  · simp only [Bool.xor_self, Bool.false_eq_true, if_false, if_true, BitVec.xor_zero]
    exact (hpp _ _ _).symm

theorem lin_comp {F G : BitVec 32 → BitVec 32} (hF : Lin F) (hG : Lin G) : Lin (fun x => F (G x)) :=
  ⟨by rw [hG.zero, hF.zero], fun x y => by rw [hG.add, hF.add]⟩
theorem lin_bitsN (n : Nat) : Lin (bitsN n) := by
  induction n with
  | zero => exact ⟨rfl, fun _ _ => rfl⟩
  | succ n ih => exact ⟨by show bitsN n (bit1 0#32) = _; rw [lin_bit1.zero, ih.zero], fun x y => by show bitsN n (bit1 _) = bitsN n (bit1 x) ^^^ bitsN n (bit1 y); rw [lin_bit1.add, ih.add]⟩
theorem lin_eightB : Lin eightB := lin_bitsN 8

/-- n bytes of zero. -/
def zerosN : Nat → BitVec 32 → BitVec 32
  | 0, c => c
  | n + 1, c => zerosN n (eightB c)
theorem lin_zerosN (n : Nat) : Lin (zerosN n) := by
  induction n with
  | zero => exact ⟨rfl, fun _ _ => rfl⟩
  | succ n ih => exact ⟨by show zerosN n (eightB 0#32) = _; rw [lin_eightB.zero, ih.zero], fun x y => by show zerosN n (eightB _) = zerosN n (eightB x) ^^^ zerosN n (eightB y); rw [lin_eightB.add, ih.add]⟩
theorem zerosN_add (m n : Nat) (c : BitVec 32) : zerosN (m + n) c = zerosN n (zerosN m c) := by
  induction m generalizing c with
  | zero => simp [zerosN]
  | succ m ih => rw [Nat.succ_add]; exact ih (eightB c)
def joinB (a b : BitVec 32) (n : Nat) : BitVec 32 := zerosN n a ^^^ b

/-- One more bit of the register, from below. -/
theorem shift_split (v : BitVec 32) (k : Nat) : v <<< k = ((v >>> 1) <<< (k + 1)) ^^^ ((v &&& 1#32) <<< k) := by
  apply BitVec.eq_of_getLsbD_eq
  intro i hi
  simp only [BitVec.getLsbD_xor, BitVec.getLsbD_shiftLeft, BitVec.getLsbD_ushiftRight, BitVec.getLsbD_and]
  by_cases h1 : i < k
  · simp [h1, show i < k + 1 by omega]
  · by_cases h2 : i = k
    · subst h2
      simp [hi]
    · have h3 : ¬ i < k + 1 := by omega
      have h4 : (1#32).getLsbD (i - k) = false := by rw [BitVec.getLsbD_one]; simp; omega
      rw [h4]
      simp [hi, h1, h3, show 1 + (i - (k + 1)) = i - k by omega]
theorem shift_one (v : BitVec 32) (k : Nat) (F : BitVec 32 → BitVec 32) (hF : Lin F) : F ((v &&& 1#32) <<< k) = F (1#32 <<< k) &&& -(v &&& 1#32) := by
  have h : v &&& 1#32 = if v.getLsbD 0 then 1#32 else 0#32 := by
    apply BitVec.eq_of_getLsbD_eq
    intro i hi
    rw [BitVec.getLsbD_and]
    rcases Nat.eq_zero_or_pos i with rfl | h0
    · cases v.getLsbD 0 <;> simp
    · have h1 : (1#32).getLsbD i = false := by rw [BitVec.getLsbD_one]; simp; omega
      rw [h1]
      split
      · rw [h1]; simp
      · simp
  rw [h]
  split
  · rw [show -(1#32) = BitVec.allOnes 32 by decide, BitVec.and_allOnes]
  · rw [BitVec.zero_shiftLeft, hF.zero]; simp
/-- One round of 'times'. -/
theorem times_step (F : BitVec 32 → BitVec 32) (hF : Lin F) (v out : BitVec 32) (k : Nat) :
    F ((v >>> 1) <<< (k + 1)) ^^^ (out ^^^ (F (1#32 <<< k) &&& -(v &&& 1#32))) = F (v <<< k) ^^^ out := by
  rw [shift_split v k, hF.add, shift_one v k F hF]
  ac_rfl

end Go.Proofs.Ytindcpheammaeaa
