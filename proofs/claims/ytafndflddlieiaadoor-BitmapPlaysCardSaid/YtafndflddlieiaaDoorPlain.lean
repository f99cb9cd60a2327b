/- Plain laws of the map: a found row stands free; how the count moves; equal bits, equal words. -/
import Derived.Test.YtafndflddlieiaaDoorTake
namespace Go.Proofs.YtafndflddlieiaaDoor

theorem findR_neg {x : Int} (L : List (Nat × Nat)) (h : x < 1) : findR x L = -1 := by
  induction L with
  | nil => rfl
  | cons r L ih =>
    unfold findR
    rw [if_neg (by omega)]
    exact ih
theorem findR_spec {p q : Nat → Bool} (hq : ∀ y, q y = !p y) {n : Nat} (x : Int) : ∀ (k a : Nat), a ≤ n → n - a ≤ k →
    (findR x (rowsF p q n a) = -1) ∨ ∃ r : Nat, findR x (rowsF p q n a) = r ∧ 1 ≤ x ∧ a ≤ r ∧ (r : Int) + x ≤ n ∧ ∀ y : Nat, r ≤ y → (y : Int) < r + x → p y = true := by
  intro k
  induction k with
  | zero =>
    intro a ha hk
    obtain rfl : a = n := by omega
    left
    rw [rowsF_step hq (Nat.le_refl _), if_neg (by have := (nextF_spec p (Nat.le_refl a)).1; omega)]
    rfl
  | succ k ih =>
    intro a ha hk
    rw [rowsF_step hq ha]
    split
    · next hlt =>
      obtain ⟨g1, g2, g3⟩ := row_gt hq ha hlt
      obtain ⟨-, -, s3, -⟩ := nextF_spec q (Nat.le_of_lt hlt)
      obtain ⟨s, hs⟩ : ∃ s, s = nextF p n a := ⟨_, rfl⟩
      obtain ⟨e, he⟩ : ∃ e, e = nextF q n s := ⟨_, rfl⟩
      rw [← hs] at g1 g2 g3 s3 hlt ⊢
      rw [← he] at g2 g3 s3 ⊢
      unfold findR
      split
      · next hc =>
        have hc2 : x ≤ ((e - s : Nat) : Int) := hc.2
        refine Or.inr ⟨s, rfl, hc.1, g1, by omega, fun y h1 h2 => ?_⟩
        have := s3 y h1 (by omega)
        rw [hq] at this
        simpa using this
      · rcases ih e g3 (by omega) with h | ⟨r, h1, h2, h3, h4, h5⟩
        · exact Or.inl h
        · exact Or.inr ⟨r, h1, h2, by omega, h4, h5⟩
    · left; rfl
theorem find_free {W : Nat → BitVec 64} {n : Nat} (x : Int) :
    (findR x (rowsF (isP W false) (isP W true) n 0) = -1) ∨ ∃ r : Nat, findR x (rowsF (isP W false) (isP W true) n 0) = r ∧ 1 ≤ x ∧ (r : Int) + x ≤ n ∧ ∀ y : Nat, r ≤ y → (y : Int) < r + x → bitW W y = false := by
  rcases findR_spec (p := isP W false) (q := isP W true) (isP_not W false) (n := n) x n 0 (Nat.zero_le _) (by omega) with h | ⟨r, h1, h2, -, h4, h5⟩
  · exact Or.inl h
  · refine Or.inr ⟨r, h1, h2, h4, fun y a b => ?_⟩
    have := h5 y a b
    simpa [isP] using this

theorem words_eq {V W : Nat → BitVec 64} (h : ∀ y, bitW V y = bitW W y) : V = W := by
  funext j
  apply BitVec.eq_of_getLsbD_eq
  intro r hr
  have := h (64 * j + r)
  unfold bitW at this
  rwa [show (64 * j + r) / 64 = j by omega, show (64 * j + r) % 64 = r by omega] at this
theorem row_back {W : Nat → BitVec 64} {a l : Nat} (h : ∀ y : Nat, a ≤ y → (y : Int) < a + l → bitW W y = false) : rowW (rowW W a true l) a false l = W := by
  apply words_eq
  intro y
  rw [bit_rowW]
  split
  · next hc => exact (h y hc.1 (by omega)).symm
  · next hc => rw [bit_rowW, if_neg hc]

theorem cntN_put (k : Nat) : ∀ (r x x' : Nat), x.testBit r = false → (∀ i, x'.testBit i = (x.testBit i || decide (i = r))) → cntN k x' = cntN k x + if r < k then 1 else 0 := by
  induction k with
  | zero => intro r x x' _ _; simp [cntN]
  | succ k ih =>
    intro r x x' h0 h
    simp only [cntN]
    cases r with
    | zero =>
      have e0 := h 0
      simp only [Nat.testBit_zero] at e0 h0
      have h2 : x' / 2 = x / 2 := by
        apply Nat.eq_of_testBit_eq
        intro i
        have := h (i + 1)
        simpa [Nat.testBit_succ] using this
      have : x % 2 = 0 := by simpa using h0
      have : x' % 2 = 1 := by simpa [h0] using e0
      rw [h2, if_pos (by omega)]
      omega
    | succ r =>
      have e0 := h 0
      simp only [Nat.testBit_zero] at e0
      have hm : x' % 2 = x % 2 := by
        have h1 : (decide (x' % 2 = 1)) = decide (x % 2 = 1) := by simpa using e0
        have h2 : (x' % 2 = 1) ↔ (x % 2 = 1) := by simpa using h1
        omega
      have := ih r (x / 2) (x' / 2) (by simpa [Nat.testBit_succ] using h0) (fun i => by have := h (i + 1); simpa [Nat.testBit_succ] using this)
      rw [hm, this]
      by_cases hr : r < k
      · rw [if_pos hr, if_pos (by omega)]; omega
      · rw [if_neg hr, if_neg (by omega)]; omega
theorem cnt_or (w : BitVec 64) {r : Nat} (hr : r < 64) (h : w.getLsbD r = false) : cntN 64 (w ||| bitOf r).toNat = cntN 64 w.toNat + 1 := by
  have := cntN_put 64 r w.toNat (w ||| bitOf r).toNat (by simpa [BitVec.testBit_toNat] using h) (fun i => by
    rw [BitVec.testBit_toNat, BitVec.testBit_toNat, BitVec.getLsbD_or, bitOf_get r i hr])
  rw [this, if_pos hr]
attribute [local irreducible] cntN cntW
theorem cntW_set (V : Nat → BitVec 64) (x : Nat) (h : bitW V x = false) (k : Nat) : cntW (setW V x true) k = cntW V k + if x / 64 < k then 1 else 0 := by
  induction k with
  | zero => simp [cntW_zero]
  | succ k ih =>
    rw [cntW_succ, cntW_succ, ih]
    unfold setW
    by_cases hk : k = x / 64
    · subst hk
      rw [if_pos rfl, if_pos rfl, cnt_or _ (by omega) h, if_neg (by omega), if_pos (by omega)]
      omega
    · rw [if_neg hk]
      by_cases h2 : x / 64 < k
      · rw [if_pos h2, if_pos (by omega)]; omega
      · rw [if_neg h2, if_neg (by omega)]; omega
theorem cntW_row (W : Nat → BitVec 64) (a l : Nat) (hal : a + l ≤ 4096) (h : ∀ y : Nat, a ≤ y → (y : Int) < a + l → bitW W y = false) : cntW (rowW W a true l) 64 = cntW W 64 + l := by
  induction l with
  | zero => rfl
  | succ l ih =>
    simp only [rowW]
    rw [cntW_set _ _ (by rw [bit_rowW, if_neg (by omega)]; exact h _ (by omega) (by omega)), if_pos (by omega), ih (by omega) (fun y h1 h2 => h y h1 (by omega))]
    omega
end Go.Proofs.YtafndflddlieiaaDoor
