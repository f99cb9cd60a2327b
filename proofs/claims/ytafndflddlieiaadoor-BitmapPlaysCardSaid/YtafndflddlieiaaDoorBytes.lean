/- The bytes that a row of bits gives (plain). -/
import Derived.Test.YtafndflddlieiaaDoorFill
namespace Go.Proofs.YtafndflddlieiaaDoor
/-- Byte j, when the first k bits are laid. -/
def yN (f : Nat → Bool) : Nat → Nat → Nat
  | 0, _ => 0
  | k + 1, j => if j = k / 8 ∧ f k = true then yN f k j ||| 2 ^ (k % 8) else yN f k j
theorem yN_lt (f : Nat → Bool) (k j : Nat) : yN f k j < 256 := by
  induction k with
  | zero => exact Nat.zero_lt_of_lt (by decide : 0 < 256)
  | succ k ih =>
    unfold yN
    split
    · exact Nat.or_lt_two_pow (n := 8) ih (Nat.pow_lt_pow_right (by omega) (by omega))
    · exact ih
theorem yN_bit (f : Nat → Bool) (k j r : Nat) (hr : r < 8) : (yN f k j).testBit r = (decide (8 * j + r < k) && f (8 * j + r)) := by
  induction k with
  | zero => simp [yN]
  | succ k ih =>
    unfold yN
    by_cases h : 8 * j + r = k
    · have h1 : j = k / 8 := by omega
      have h2 : r = k % 8 := by omega
      have h3 : 8 * j + r < k + 1 := by omega
      have h4 : ¬ 8 * j + r < k := by omega
      rw [decide_eq_false h4] at ih
      rw [decide_eq_true h3, h]
      by_cases hf : f k = true
      · rw [if_pos ⟨h1, hf⟩, Nat.testBit_or, ih, hf, h2, Nat.testBit_two_pow_self]
        rfl
      · rw [if_neg (fun x => hf x.2), ih]
        simp [hf]
    · have e : decide (8 * j + r < k + 1) = decide (8 * j + r < k) := by
        apply decide_eq_decide.2
        omega
      rw [e]
      split
      · next hc =>
        rw [Nat.testBit_or, ih, Nat.testBit_two_pow_of_ne (by omega)]
        simp
      · exact ih
end Go.Proofs.YtafndflddlieiaaDoor
