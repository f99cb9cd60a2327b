/- The reference's Free. -/
import Derived.Test.YtafndflddlieiaaDoorRefE
namespace Go.Proofs.YtafndflddlieiaaDoor
open Go.RowKit
attribute [local irreducible] wpQuiet
attribute [local go_sem high] run_mxI run_mnI

section
variable {w : World} {B n c : Nat} {A : Option Addr} {f : Nat → Bool}
theorem rfree_bad {a l : Int} (hc : hasB n a = false ∨ l < 1 ∨ (n : Int) - a < l) (hn : n ≤ 4096) :
    Calls Tryd.prog 20 #[.slice A n c, .agg #[.int .i64 a, .int .i64 l]] w fun e w' => e = .returned (.tuple #[.slice A n c, .int .i64 1]) ∧ Below w.heap.size w w' := by
  have HB := hid (show Below w.heap.size w (w.alloc (.cells #[.int .i64 a, .int .i64 l] 37)) from (Below.refl _ _).alloc (Nat.le_refl _) _)
  by_cases h1 : a < 0
  · clear hc
    go_enter Tryd.func20, Tryd.ntmps20
    go_wp2_with fail
    go_ret2
    exact ⟨rfl, HB.out⟩
  · by_cases h2 : l < 1
    · clear hc
      go_enter Tryd.func20, Tryd.ntmps20
      go_wp2_with fail
      go_ret2
      exact ⟨rfl, HB.out⟩
    · by_cases h3 : (n : Int) ≤ a
      · clear hc
        go_enter Tryd.func20, Tryd.ntmps20
        go_wp2_with fail
        go_ret2
        exact ⟨rfl, HB.out⟩
      · have h4 : (n : Int) - a < l := by
          rcases hc with h | h | h
          · simp [hasB] at h; omega
          · omega
          · exact h
        clear hc
        go_enter Tryd.func20, Tryd.ntmps20
        go_wp2_with fail
        go_ret2
        exact ⟨rfl, HB.out⟩
set_option maxHeartbeats 400000 in
theorem rfree_ok (h : Hid (Holds w B A (bcs f n))) (hB : B ≤ w.heap.size) (hn : n ≤ 4096) {a l : Nat} (hl : 1 ≤ l) (hal : a + l ≤ n) :
    Calls Tryd.prog 20 #[.slice A n c, .agg #[.int .i64 a, .int .i64 l]] w fun e w' =>
      ((¬ ∀ y, a ≤ y → y < a + l → f y = true) ∧ e = .returned (.tuple #[.slice A n c, .int .i64 7]) ∧ Below w.heap.size w w') ∨
      ((∀ y, a ≤ y → y < a + l → f y = true) ∧ ∃ A' c', e = .returned (.tuple #[.slice A' n c', .int .i64 0]) ∧ RefTo n (fun y => if a ≤ y ∧ y < a + l then false else f y) w w' A') := by
  obtain ⟨wb, hwb⟩ : ∃ wb, wb = w.alloc (.cells #[.int .i64 a, .int .i64 l] 37) := ⟨_, rfl⟩
  have hx := hid (show Blk wb w.heap.size 37 #[.int .i64 a, .int .i64 l] by rw [hwb]; exact Blk.new w 37 #[.int .i64 a, .int .i64 l])
  have hHb := hid (show Holds wb B A (bcs f n) by rw [hwb]; exact h.out.below ((Below.refl _ _).alloc hB _))
  have hBb := hid (show Below w.heap.size w wb by rw [hwb]; exact (Below.refl _ _).alloc (Nat.le_refl _) _)
  have hRow := hid (rrow_any (c := c) hHb (by have := hBb.out.size; omega) hn hl hal false)
  have HW := hid hwb
  clear hwb
  go_enter Tryd.func20, Tryd.ntmps20
  go_wp2_with fail
  rw [← HW.out]
  go_loopw [6] (fun v6 wr => wr = wb ∧ ∃ k : Nat, k ≤ l ∧ v6 = .int .i64 k ∧ Hid (∀ y, a ≤ y → y < a + k → f y = true)) (fun v6 _ => l - (intOf v6).toNat)
  case atStart => exact ⟨rfl, 0, Nat.zero_le _, rfl, hid fun y h1 h2 => by omega⟩
  case round =>
    obtain ⟨rfl, k, hk, rfl, hI⟩ := hrel
    have x0 : wr.cell? ⟨w.heap.size, 0, none⟩ = some (.int .i64 a) := by rw [hx.out.cell]; rfl
    have x1 : wr.cell? ⟨w.heap.size, 1, none⟩ = some (.int .i64 l) := by rw [hx.out.cell]; rfl
    by_cases hkl : k < l
    · obtain ⟨ad, rfl, e1⟩ := bool_at hHb.out (i := a + k) (by omega)
      cases hf : f (a + k) with
      | true =>
        rw [hf] at e1
        have HF := hid hf
        clear hf
        go_wp2_with fail
        go_roundw
        case rel =>
          refine ⟨trivial, k + 1, by omega, by go_num, hid fun y h1 h2 => ?_⟩
          by_cases h3 : y = a + k
          · rw [h3]; exact HF.out
          · exact hI.out y h1 (by omega)
        case measure => simp [intOf]; omega
      | false =>
        rw [hf] at e1
        have HF := hid hf
        clear hf
        go_wp2_with fail
        go_ret2
        exact Or.inl ⟨fun h => by have := h (a + k) (by omega) (by omega); rw [HF.out] at this; exact absurd this (by decide), rfl, hBb.out⟩
    · obtain rfl : k = l := by omega
      go_wp2_with fail
      refine hRow.out.mono ?_
      rintro e w2 ⟨A', c', rfl, hh, hb2⟩
      have H2 := hid hh
      have B2 := hid (hBb.out.trans (hb2.mono hBb.out.size))
      clear hh hb2
      go_wp2_with fail
      go_ret2
      exact Or.inr ⟨hI.out, _, _, rfl, H2.out, B2.out⟩
end
end Go.Proofs.YtafndflddlieiaaDoor
