/- The bits of the words that a string fills (plain). -/
import Derived.Test.YtafndflddlieiaaDoorRead
import Derived.Test.YtafndflddlieiaaDoorRefA
import Derived.Test.YtafndflddlieiaaDoorPlain
import Derived.Test.YtafndflddlieiaaDoorText
namespace Go.Proofs.YtafndflddlieiaaDoor

def byteAt (s : ByteArray) (k : Nat) : UInt8 := s.data.toList.getD k 0
def sB (s : ByteArray) (y : Nat) : Bool := (byteAt s (y / 8)).toNat.testBit (y % 8)
theorem byteW_get (b : UInt8) {r j : Nat} (hj : j < 64) : (byteW b r).getLsbD j = (decide (r ≤ j) && b.toNat.testBit (j - r)) := by
  unfold byteW
  rw [BitVec.getLsbD_shiftLeft]
  simp only [BitVec.getLsbD_ofNat]
  by_cases h : r ≤ j
  · have h2 : ¬ j < r := by omega
    simp [hj, h, h2]
    omega
  · have h2 : j < r := by omega
    simp [h, h2]
theorem bit_orW (W : Nat → BitVec 64) (k : Nat) (b : UInt8) (y : Nat) : bitW (orW W k b) y = (bitW W y || (decide (y / 8 = k) && b.toNat.testBit (y % 8))) := by
  unfold bitW orW updW
  by_cases h : y / 64 = k / 8
  · rw [if_pos h, BitVec.getLsbD_or, byteW_get b (by omega), h]
    congr 1
    by_cases h2 : y / 8 = k
    · have e1 : 8 * (k % 8) ≤ y % 64 := by omega
      have e2 : y % 64 - 8 * (k % 8) = y % 8 := by omega
      simp [e1, e2, h2]
    · by_cases e1 : 8 * (k % 8) ≤ y % 64
      · have e3 : b.toNat.testBit (y % 64 - 8 * (k % 8)) = false := Nat.testBit_lt_two_pow (Nat.lt_of_lt_of_le b.toNat_lt (show 2 ^ 8 ≤ _ from Nat.pow_le_pow_right (by omega) (by omega)))
        simp [h2, e3]
      · simp [h2, e1]
  · rw [if_neg h]
    have h2 : ¬ y / 8 = k := by omega
    simp [h2]
theorem bit_fill (s : ByteArray) (k y : Nat) : bitW (fillW s k) y = (decide (y / 8 < k) && sB s y) := by
  induction k with
  | zero => simp [fillW, bitW]
  | succ k ih =>
    have e : fillW s (k + 1) = orW (fillW s k) k (byteAt s k) := rfl
    rw [e, bit_orW, ih]
    by_cases h : y / 8 = k
    · simp [h, sB]
    · by_cases h2 : y / 8 < k
      · have h3 : y / 8 < k + 1 := by omega
        simp [h, h2, h3]
      · have h3 : ¬ y / 8 < k + 1 := by omega
        simp [h, h2, h3]
theorem byteAt_out (s : ByteArray) {k : Nat} (hk : s.size ≤ k) : byteAt s k = 0 := by
  unfold byteAt
  have : s.data.toList.length ≤ k := by simpa using hk
  rw [List.getD_eq_getElem?_getD, List.getElem?_eq_none this]
  rfl
theorem bit_full (s : ByteArray) (y : Nat) : bitW (fillW s s.size) y = sB s y := by
  rw [bit_fill]
  by_cases h : y / 8 < s.size
  · simp [h]
  · have : sB s y = false := by unfold sB; rw [byteAt_out s (by omega)]; simp
    simp [h, this]
theorem byteN_fill (s : ByteArray) (i : Nat) : byteN (fillW s s.size) i = (byteAt s i).toNat := by
  have hb := (byteAt s i).toNat_lt
  apply Nat.eq_of_testBit_eq
  intro j
  unfold byteN
  rw [show (256 : Nat) = 2 ^ 8 from rfl, Nat.testBit_mod_two_pow, Nat.testBit_div_two_pow]
  by_cases hj : j < 8
  · have := bit_full s (8 * i + j)
    unfold bitW sB at this
    rw [show (8 * i + j) / 64 = i / 8 by omega, show (8 * i + j) % 64 = j + 8 * (i % 8) by omega, show (8 * i + j) / 8 = i by omega, show (8 * i + j) % 8 = j by omega] at this
    rw [BitVec.testBit_toNat, this]
    simp [hj]
  · have e3 : (byteAt s i).toNat.testBit j = false := Nat.testBit_lt_two_pow (Nat.lt_of_lt_of_le hb (show 2 ^ 8 ≤ _ from Nat.pow_le_pow_right (by omega) (by omega)))
    simp [hj, e3]
theorem text_fill (s : ByteArray) {n : Nat} (hs : s.size = (n + 7) / 8) : (⟨(textL n (fillW s s.size)).toArray⟩ : ByteArray) = s := by
  have : textL n (fillW s s.size) = s.data.toList := by
    apply List.ext_getElem?
    intro i
    unfold textL
    rw [← hs]
    by_cases hi : i < s.size
    · have h2 : i < s.data.toList.length := by simpa using hi
      have hb : byteAt s i = s.data.toList[i] := by unfold byteAt; rw [List.getD_eq_getElem?_getD, List.getElem?_eq_getElem h2]; rfl
      rw [List.getElem?_eq_getElem h2, List.getElem?_map, List.getElem?_range hi]
      simp only [Option.map_some]
      rw [byteN_fill, hb]
      simp
    · have h2 : s.data.toList.length ≤ i := by simpa using hi
      rw [List.getElem?_eq_none h2, List.getElem?_eq_none (by simp; omega)]
  rw [this]
theorem eqW_refl (V : Nat → BitVec 64) : eqW V V = true := by simp [eqW]
theorem fill_ok {s : ByteArray} {n : Nat} (h : ∀ y, n ≤ y → sB s y = false) : eqW (rowW (fillW s s.size) n false (8 * s.size - n)) (fillW s s.size) = true := by
  have : rowW (fillW s s.size) n false (8 * s.size - n) = fillW s s.size := by
    apply words_eq
    intro y
    rw [bit_rowW]
    split
    · next hc => rw [bit_full, h y hc.1]
    · rfl
  rw [this]
  exact eqW_refl _
theorem fill_bad {s : ByteArray} {n : Nat} (hn : n ≤ 4096) (hs : s.size = (n + 7) / 8) (h : ¬ ∀ y, n ≤ y → sB s y = false) : eqW (rowW (fillW s s.size) n false (8 * s.size - n)) (fillW s s.size) = false := by
  rw [Bool.eq_false_iff]
  intro he
  apply h
  intro y hy
  by_cases hys : y / 8 < s.size
  · unfold eqW at he
    rw [List.all_eq_true] at he
    have hj := he (y / 64) (by simp; omega)
    have hj := of_decide_eq_true hj
    have e1 : bitW (rowW (fillW s s.size) n false (8 * s.size - n)) y = bitW (fillW s s.size) y := by unfold bitW; rw [hj]
    rw [bit_rowW, if_pos (by omega), bit_full] at e1
    exact e1.symm
  · unfold sB
    rw [byteAt_out s (by omega)]
    simp
theorem cntN_bits (k : Nat) : ∀ x, cntN k x = cntF (fun i => x.testBit i) k := by
  have shift : ∀ (f : Nat → Bool) k, cntF f (k + 1) = (if f 0 then 1 else 0) + cntF (fun i => f (i + 1)) k := by
    intro f k
    induction k with
    | zero => simp [cntF]
    | succ k ih =>
      have e : cntF f (k + 1 + 1) = cntF f (k + 1) + if f (k + 1) then 1 else 0 := rfl
      rw [e, ih]
      simp only [cntF]
      omega
  induction k with
  | zero => intro x; rfl
  | succ k ih =>
    intro x
    rw [shift]
    simp only [cntN]
    rw [ih]
    congr 1
    · simp only [Nat.testBit_zero]
      rcases Nat.mod_two_eq_zero_or_one x with h | h <;> simp [h]
    · congr 1
      funext i
      rw [Nat.testBit_succ]
attribute [local irreducible] cntN cntW
theorem cntF_add (f : Nat → Bool) (a k : Nat) : cntF f (a + k) = cntF f a + cntF (fun i => f (a + i)) k := by
  induction k with
  | zero => rfl
  | succ k ih =>
    have e : cntF f (a + (k + 1)) = cntF f (a + k) + if f (a + k) then 1 else 0 := rfl
    rw [e, ih]
    simp only [cntF]
    omega
theorem cntF_congr {f g : Nat → Bool} {k : Nat} (h : ∀ y, y < k → f y = g y) : cntF f k = cntF g k := by
  induction k with
  | zero => rfl
  | succ k ih => simp only [cntF]; rw [ih (fun y hy => h y (by omega)), h k (by omega)]
theorem cntF_zero {f : Nat → Bool} {k : Nat} (h : ∀ y, y < k → f y = false) : cntF f k = 0 := by
  induction k with
  | zero => rfl
  | succ k ih => simp only [cntF]; rw [ih (fun y hy => h y (by omega)), h k (by omega)]; rfl
theorem cntW_bits (W : Nat → BitVec 64) (k : Nat) : cntW W k = cntF (bitW W) (64 * k) := by
  induction k with
  | zero => rw [cntW_zero]; rfl
  | succ k ih =>
    rw [cntW_succ, ih, show 64 * (k + 1) = 64 * k + 64 by omega, cntF_add, cntN_bits]
    congr 1
    apply cntF_congr
    intro y hy
    unfold bitW
    rw [show (64 * k + y) / 64 = k by omega, show (64 * k + y) % 64 = y by omega, BitVec.testBit_toNat]
theorem cnt_below {W : Nat → BitVec 64} {n : Nat} (hn : n ≤ 4096) (h : ∀ y, n ≤ y → bitW W y = false) : cntW W 64 = cntF (bitW W) n := by
  rw [cntW_bits, show 64 * 64 = n + (4096 - n) by omega, cntF_add, cntF_zero (f := fun i => bitW W (n + i)) (fun y _ => h _ (by omega))]
  omega
end Go.Proofs.YtafndflddlieiaaDoor
