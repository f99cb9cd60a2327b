/- math/bits.TrailingZeros64, walked; the table that it reads. -/
import Derived.Test.YtafndflddlieiaaDoorCount
namespace Go.Proofs.YtafndflddlieiaaDoor
open Go.RowKit
attribute [local irreducible] wpQuiet

def dbL : List Nat := [0, 1, 56, 2, 57, 49, 28, 3, 61, 58, 42, 50, 38, 29, 17, 4, 62, 47, 59, 36, 45, 43, 51, 22, 53, 39, 33, 30, 24, 18, 12, 5, 63, 55, 48, 27, 60, 41, 37, 16, 46, 35, 44, 21, 52, 32, 23, 11, 54, 26, 40, 15, 34, 20, 31, 10, 25, 14, 19, 9, 13, 8, 7, 6]
/-- The library's table stands in block 0. -/
def TabIs (w : World) : Prop := ∀ i, i < 64 → w.cell? ⟨0, i, none⟩ = some (.int .u8 (dbL.getD i 0 : Nat))
theorem TabIs.keep {w w' : World} (h : TabIs w) (hk : w'.heap[0]? = w.heap[0]?) : TabIs w' := fun i hi => (World.cell?_of_block (w := w) hk).trans (h i hi)
theorem TabIs.lt {w : World} (h : TabIs w) : 0 < w.heap.size := World.block_lt_of_cell? w _ (h 0 (by omega))
theorem TabIs.below {w w' : World} {B : Nat} (h : TabIs w) (hb : Below B w w') (hB : 0 < B) : TabIs w' := h.keep (hb.block 0 hB)

/-- t is the place of the least bit that is set. -/
def Least (x : BitVec 64) (t : Nat) : Prop := t < 64 ∧ x.getLsbD t = true ∧ ∀ j, j < t → x.getLsbD j = false
theorem least_and {x : BitVec 64} {t : Nat} (h : Least x t) : x &&& -x = bitOf t := by
  obtain ⟨h1, h2, h3⟩ := h
  apply BitVec.eq_of_getLsbD_eq
  intro i hi
  rw [BitVec.getLsbD_and, BitVec.getLsbD_neg, bitOf_get _ _ h1]
  rcases Nat.lt_trichotomy i t with h | h | h
  · rw [h3 i h]; simp; omega
  · subst h
    rw [h2]
    have : ¬ ∃ j, j < i ∧ x.getLsbD j = true := fun ⟨j, hj, hx⟩ => by rw [h3 j hj] at hx; cases hx
    simp [hi, this]
  · have : ∃ j, j < i ∧ x.getLsbD j = true := ⟨t, h, h2⟩
    have hne : i ≠ t := by omega
    simp [hi, this, hne]
theorem least_ex {x : BitVec 64} (h : x ≠ 0#64) : ∃ t, Least x t := by
  have h0 : ∃ i, i < 64 ∧ x.getLsbD i = true := by
    by_cases hc : ∃ i, i < 64 ∧ x.getLsbD i = true
    · exact hc
    · exfalso
      apply h
      apply BitVec.eq_of_getLsbD_eq
      intro i hi
      cases hb : x.getLsbD i with
      | false => simp
      | true => exact absurd ⟨i, hi, hb⟩ hc
  obtain ⟨i, hi, hb⟩ := h0
  induction i using Nat.strongRecOn with
  | ind i ih =>
    by_cases hc : ∃ j, j < i ∧ x.getLsbD j = true
    · obtain ⟨j, hj, hx⟩ := hc
      exact ih j hj (by omega) hx
    · refine ⟨i, hi, hb, fun j hj => ?_⟩
      cases hx : x.getLsbD j with
      | false => rfl
      | true => exact absurd ⟨j, hj, hx⟩ hc
theorem db_at : ∀ t : Fin 64, (bitOf t.val).toNat * 285870213051353865 % 18446744073709551616 / 288230376151711744 < 64 ∧ dbL.getD ((bitOf t.val).toNat * 285870213051353865 % 18446744073709551616 / 288230376151711744) 0 = t.val := by decide +kernel

theorem tz_any {x : BitVec 64} {t : Nat} {w : World} (h : Least x t) (hT : TabIs w) :
    Calls Tryd.prog 39 #[.int .u64 (U x)] w fun e w' => e = .returned (.int .i64 t) ∧ w = w' := by
  have hx : (U x == 0) = false := by
    have h2 := h.2.1
    have : U x ≠ 0 := fun e => by
      have : x = 0#64 := U_inj.1 (e.trans (by rfl))
      rw [this] at h2
      simp at h2
    simpa using this
  have hneg : IntKind.u64.wrap (-U x) = U (-x) := by
    unfold U
    rw [IntKind.wrap_u64, BitVec.toNat_neg]
    have := x.isLt
    omega
  obtain ⟨k, hk⟩ : ∃ k, k = (bitOf t).toNat * 285870213051353865 % 18446744073709551616 / 288230376151711744 := ⟨_, rfl⟩
  obtain ⟨d1, d2⟩ := db_at ⟨t, h.1⟩
  simp only [← hk] at d1 d2
  have hc : w.cell? ⟨0, k, none⟩ = some (.int .u8 t) := by rw [hT k d1, d2]
  have hi : IntKind.u64.wrap (bits .and .u64 (U x) (IntKind.u64.wrap (-U x)) * 285870213051353865) / 288230376151711744 = (k : Int) := by
    rw [hneg, U_and, least_and h, hk, IntKind.wrap_u64]
    unfold U
    generalize (bitOf t).toNat = y
    show (y : Int) * ((285870213051353865 : Nat) : Int) % ((18446744073709551616 : Nat) : Int) / ((288230376151711744 : Nat) : Int) = _
    rw [← Int.natCast_mul, ← Int.natCast_emod, ← Int.natCast_ediv]
  have ht : t < 64 := h.1
  clear h hT hneg hk d2
  go_enter Tryd.func39, Tryd.ntmps39
  go_wp2_with fail
  go_ret
  exact ⟨rfl, rfl⟩
end Go.Proofs.YtafndflddlieiaaDoor
