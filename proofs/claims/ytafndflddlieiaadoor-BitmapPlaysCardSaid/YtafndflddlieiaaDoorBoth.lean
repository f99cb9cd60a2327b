/- A map and the reference's row of the same bits answer alike (plain). -/
import Derived.Test.YtafndflddlieiaaDoorRefG
namespace Go.Proofs.YtafndflddlieiaaDoor
/-- The words and the row have the same bits, n of them. -/
def Same (n : Nat) (W : Nat → BitVec 64) (f : Nat → Bool) : Prop := (∀ y, bitW W y = f y) ∧ ∀ y, n ≤ y → f y = false
section
variable {n : Nat} {W : Nat → BitVec 64} {f : Nat → Bool}
theorem Same.start : Same n (fun _ => 0#64) (fun _ => false) := ⟨fun y => by simp [bitW], fun _ _ => rfl⟩
theorem Same.set (h : Same n W f) {x : Nat} (hx : x < n) (on : Bool) : Same n (setW W x on) (fun y => if y = x then on else f y) :=
  ⟨fun y => by rw [bit_setW, h.1], fun y hy => by show (if y = x then on else f y) = false; rw [if_neg (by omega)]; exact h.2 y hy⟩
theorem Same.row (h : Same n W f) {a l : Nat} (hal : a + l ≤ n) (on : Bool) : Same n (rowW W a on l) (fun y => if a ≤ y ∧ y < a + l then on else f y) :=
  ⟨fun y => by rw [bit_rowW, h.1], fun y hy => by show (if a ≤ y ∧ y < a + l then on else f y) = false; rw [if_neg (by omega)]; exact h.2 y hy⟩
theorem Same.text (h : Same n W f) : textL n W = rtextL n f := by
  unfold textL rtextL
  congr 1
  funext i
  congr 1
  apply Nat.eq_of_testBit_eq
  intro j
  by_cases hj : j < 8
  · rw [yN_bit f n i j hj]
    unfold byteN
    rw [show (256 : Nat) = 2 ^ 8 from rfl, Nat.testBit_mod_two_pow, Nat.testBit_div_two_pow]
    have := h.1 (8 * i + j)
    unfold bitW at this
    rw [show (8 * i + j) / 64 = i / 8 by omega, show (8 * i + j) % 64 = j + 8 * (i % 8) by omega] at this
    rw [BitVec.testBit_toNat, this]
    by_cases h2 : 8 * i + j < n
    · simp [hj, h2]
    · simp [hj, h2, h.2 (8 * i + j) (by omega)]
  · have hle : 2 ^ 8 ≤ 2 ^ j := Nat.pow_le_pow_right (by omega) (by omega)
    have h1 : byteN W i < 256 := Nat.mod_lt _ (by omega)
    rw [Nat.testBit_lt_two_pow (Nat.lt_of_lt_of_le h1 hle), Nat.testBit_lt_two_pow (Nat.lt_of_lt_of_le (yN_lt f n i) hle)]
end
end Go.Proofs.YtafndflddlieiaaDoor
