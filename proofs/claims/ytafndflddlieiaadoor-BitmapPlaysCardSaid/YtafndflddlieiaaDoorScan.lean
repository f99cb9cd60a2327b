/- Rows by scanning bit after bit: the state of the scan (plain). -/
import Derived.Test.YtafndflddlieiaaDoorLawsA
namespace Go.Proofs.YtafndflddlieiaaDoor

/-- After i bits the scan has the rows L; the whole answer is R. -/
def St (p q : Nat → Bool) (n : Nat) (R : List (Nat × Nat)) (i : Nat) (L : List (Nat × Nat)) : Prop :=
  L.length ≤ i ∧ ((R = L ++ rowsF p q n i ∧ ∀ M r, L = M ++ [r] → r.1 + r.2 < i) ∨
    ∃ M s, s < i ∧ L = M ++ [(s, i - s)] ∧ R = M ++ (s, nextF q n i - s) :: rowsF p q n (nextF q n i))

section
variable {p q : Nat → Bool} {n i : Nat} {R L : List (Nat × Nat)}
theorem nextF_skip {a : Nat} (ha : a < n) (h : p a = false) : nextF p n a = nextF p n (a + 1) := by
  obtain ⟨s1, s2, s3, s4⟩ := nextF_spec p (n := n) (a := a + 1) ha
  refine nextF_eq (by omega) s2 (fun y h1 h2 => ?_) s4
  rcases Nat.eq_or_lt_of_le h1 with rfl | h3
  · exact h
  · exact s3 y h3 h2
theorem rowsF_skip (hq : ∀ y, q y = !p y) {a : Nat} (ha : a < n) (h : p a = false) : rowsF p q n a = rowsF p q n (a + 1) := by
  rw [rowsF_step hq (Nat.le_of_lt ha), rowsF_step hq ha, nextF_skip ha h]
theorem St.start : St p q n (rowsF p q n 0) 0 [] := ⟨Nat.le_refl _, Or.inl ⟨rfl, fun M r h => by simp at h⟩⟩
theorem St.le (h : St p q n R i L) {M : List (Nat × Nat)} {r : Nat × Nat} (hL : L = M ++ [r]) : r.1 + r.2 ≤ i := by
  rcases h with ⟨-, ⟨-, h2⟩ | ⟨M', s, h1, h2, -⟩⟩
  · exact Nat.le_of_lt (h2 M r hL)
  · rw [h2] at hL
    have := List.append_inj_right' hL (by simp)
    simp only [List.cons.injEq, and_true] at this
    rw [← this]
    show s + (i - s) ≤ i
    omega
theorem St.skip (hq : ∀ y, q y = !p y) (h : St p q n R i L) (hi : i < n) (hp : p i = false) : St p q n R (i + 1) L := by
  have hle := fun M r (hL : L = M ++ [r]) => h.le hL
  rcases h with ⟨h0, ⟨h1, h2⟩ | ⟨M, s, h1, h2, h3⟩⟩
  · exact ⟨by omega, Or.inl ⟨by rw [h1, rowsF_skip hq hi hp], fun M r hL => by have := h2 M r hL; omega⟩⟩
  · have hqi : q i = true := by rw [hq, hp]; rfl
    have hs : nextF q n i = i := nextF_self (Nat.le_of_lt hi) (fun _ => hqi)
    refine ⟨by omega, Or.inl ⟨?_, fun M r hL => by have := hle M r hL; omega⟩⟩
    rw [h3, h2, hs, rowsF_skip hq hi hp]
    simp
theorem St.new (hq : ∀ y, q y = !p y) (h : St p q n R i L) (hi : i < n) (hp : p i = true) (hl : ∀ M r, L = M ++ [r] → r.1 + r.2 ≠ i) : St p q n R (i + 1) (L ++ [(i, 1)]) := by
  have hqi : q i = false := by rw [hq, hp]; rfl
  have hs := nextF_skip (p := q) hi hqi
  obtain ⟨g1, g2, g3, g4⟩ := rowsF_here hq hi hp
  rcases h with ⟨h0, ⟨h1, h2⟩ | ⟨M, s, h1, h2, h3⟩⟩
  · refine ⟨by simp; omega, Or.inr ⟨L, i, by omega, by rw [show i + 1 - i = 1 by omega], ?_⟩⟩
    rw [h1, g3, hs]
  · exact absurd (show s + (i - s) = i by omega) (hl M _ h2)
theorem St.more (hq : ∀ y, q y = !p y) {M : List (Nat × Nat)} {a l : Nat} (h : St p q n R i (M ++ [(a, l)])) (hi : i < n) (hp : p i = true) (hl : a + l = i) : St p q n R (i + 1) (M ++ [(a, l + 1)]) := by
  have hqi : q i = false := by rw [hq, hp]; rfl
  have hs := nextF_skip (p := q) hi hqi
  rcases h with ⟨h0, ⟨h1, h2⟩ | ⟨M', s, h1, h2, h3⟩⟩
  · have := h2 M _ rfl
    simp only at this
    omega
  · have e1 := List.append_inj_left' h2 (by simp)
    have e2 := List.append_inj_right' h2 (by simp)
    simp only [List.cons.injEq, Prod.mk.injEq, and_true] at e2
    obtain ⟨rfl, rfl⟩ := e2
    subst e1
    refine ⟨by simp at h0 ⊢; omega, Or.inr ⟨M, a, by omega, by rw [show i - a + 1 = i + 1 - a by omega], ?_⟩⟩
    rw [h3, hs]
theorem St.done (hq : ∀ y, q y = !p y) (h : St p q n R n L) : R = L := by
  rcases h with ⟨-, ⟨h1, -⟩ | ⟨M, s, h1, h2, h3⟩⟩
  · rw [h1, rowsF_end hq, List.append_nil]
  · have hn : nextF q n n = n := nextF_self (Nat.le_refl _) (fun h => by omega)
    rw [h3, h2, hn, rowsF_end hq]
theorem last_or (L : List (Nat × Nat)) : L = [] ∨ ∃ M a l, L = M ++ [(a, l)] := by
  rcases List.eq_nil_or_concat L with h | ⟨M, r, h⟩
  · exact Or.inl h
  · exact Or.inr ⟨M, r.1, r.2, by rw [h]; simp⟩
theorem rcs_last (M : List (Nat × Nat)) (a l l' : Nat) : (rcs (M ++ [(a, l)])).set (M.length * 2 + 1) (.int .i64 l') = rcs (M ++ [(a, l')]) := by
  rw [rcs_append, rcs_append, List.set_append_right _ _ (by rw [rcs_length]; omega), rcs_length]
  rw [show M.length * 2 + 1 - M.length * 2 = 1 by omega]
  rfl
end
end Go.Proofs.YtafndflddlieiaaDoor
