/- The reference's Text. -/
import Derived.Test.YtafndflddlieiaaDoorBytes
import Derived.Test.YtafndflddlieiaaDoorRefF
namespace Go.Proofs.YtafndflddlieiaaDoor
open Go.RowKit
attribute [local irreducible] wpQuiet
attribute [local go_sem high] run_mxI run_mnI
theorem or_byte (x r : Nat) (hx : x < 256) (hr : r < 8) : bits .or .u8 (x : Int) ((2 : Int) ^ r) = ((x ||| 2 ^ r : Nat) : Int) := by
  have h2 : 2 ^ r < 256 := Nat.pow_lt_pow_right (a := 2) (n := 8) (by omega) (by omega)
  have := u8_or_nat x (2 ^ r) hx h2
  rw [← this, Int.natCast_pow]
  rfl
theorem or_byte2 (x r : Nat) (hx : x < 256) (hr : r < 8) : bits .or .u8 (x : Int) ((2 : Int) ^ r % 256) = ((x ||| 2 ^ r : Nat) : Int) := by
  have h2 : 2 ^ r < 256 := Nat.pow_lt_pow_right (a := 2) (n := 8) (by omega) (by omega)
  have h3 : (2 : Int) ^ r = ((2 ^ r : Nat) : Int) := by rw [Int.natCast_pow]; rfl
  have h4 : (2 : Int) ^ r % 256 = (2 : Int) ^ r := Int.emod_eq_of_lt (by rw [h3]; exact Int.natCast_nonneg _) (by rw [h3]; exact Int.ofNat_lt.2 h2)
  rw [h4]
  exact or_byte x r hx hr
def ycs (f : Nat → Bool) (k m : Nat) : List Value := (List.range m).map fun j => Value.int .u8 (yN f k j : Nat)
theorem run_make8z (f : Nat → Bool) (m : Nat) (hm : m ≤ 4096) (w : World) : (Instr.makeSlice 67 (.int .i64 m) (.int .i64 m)).run Tryd.prog w = .ok (.slice (some ⟨w.heap.size, 0, none⟩) m m) (w.alloc (.cells (ycs f 0 m).toArray 5)) := by
  obtain ⟨i0, hi, hzz⟩ := Option.map_eq_some_iff.1 info5
  simp only [Prod.mk.injEq] at hzz
  obtain ⟨hz0, hz1, hz2⟩ := hzz
  have := run_makeSlice (P := Tryd.prog) (w := w) 67 5 i0 (.int .u8 0) Tryd.underlying67 hi hz0 .i64 .i64 (m : Int) (m : Int) (by omega) (by omega) (by rw [hz1]; simp; omega) (by rw [hz2]; simp; omega) (by omega)
  have hc : madeCells (Value.int .u8 0).cells (m * i0.size) = (ycs f 0 m).toArray := by
    rw [hz1]
    apply Array.ext'
    apply List.ext_getElem
    · simp [madeCells, ycs]
    · intro i h1 h2
      have e : ∀ i : Nat, (Value.int .u8 0).cells[i % (Value.int .u8 0).cells.size]! = Value.int .u8 0 := by
        intro i
        have : (Value.int .u8 0).cells = #[Value.int .u8 0] := rfl
        rw [this, show i % (#[Value.int .u8 0] : Array Value).size = 0 from Nat.mod_one i]
        rfl
      simp [madeCells, ycs, e, yN]
  rw [← hc]
  simpa using this
theorem ycs_length (f : Nat → Bool) (k m : Nat) : (ycs f k m).length = m := by simp [ycs]
theorem ycs_get (f : Nat → Bool) (k : Nat) {m j : Nat} (hj : j < m) : (ycs f k m)[j]? = some (.int .u8 (yN f k j : Nat)) := by simp [ycs, hj]
section
variable {w : World} {B n c : Nat} {A : Option Addr} {f : Nat → Bool}
theorem ycs_next (f : Nat → Bool) {k m : Nat} (hf : f k = true) : (ycs f k m).toArray.setIfInBounds (k / 8) (.int .u8 (yN f k (k / 8) ||| 2 ^ (k % 8) : Nat)) = (ycs f (k + 1) m).toArray := by
  apply Array.ext'
  apply List.ext_getElem
  · simp [ycs]
  · intro j h1 h2
    simp [ycs, List.getElem_set]
    by_cases h : k / 8 = j
    · subst h; simp [yN, hf]
    · rw [if_neg h]
      have : ¬ (j = k / 8 ∧ f k = true) := fun x => h x.1.symm
      simp [yN, this]
theorem ycs_same (f : Nat → Bool) {k m : Nat} (hf : f k = false) : ycs f (k + 1) m = ycs f k m := by
  simp [ycs, yN, hf]
def rtextL (n : Nat) (f : Nat → Bool) : List UInt8 := (List.range ((n + 7) / 8)).map fun j => UInt8.ofNat (yN f n j)
set_option maxHeartbeats 800000 in
theorem rtext_any (h : Hid (Holds w B A (bcs f n))) (hB : B ≤ w.heap.size) (hn : n ≤ 4096) :
    Calls Tryd.prog 24 #[.slice A n c] w fun e w' => e = .returned (.string ⟨(rtextL n f).toArray⟩) ∧ Below w.heap.size w w' := by
  obtain ⟨m, hm⟩ : ∃ m, m = (n + 7) / 8 := ⟨_, rfl⟩
  have hm2 : m ≤ 512 := by omega
  have hmi : ((n : Int) + 7) / 8 = (m : Int) := by omega
  have hmk := run_make8z f m (by omega) w
  have HM := hid hm
  clear hm
  go_enter Tryd.func24, Tryd.ntmps24
  go_wp2_with fail
  go_loopw [4] (fun v4 wr => ∃ k : Nat, k ≤ n ∧ v4 = .int .i64 k ∧ Hid (Blk wr w.heap.size 5 (ycs f k m).toArray ∧ Below w.heap.size w wr)) (fun v4 _ => n - (intOf v4).toNat)
  case atStart => exact ⟨0, Nat.zero_le _, rfl, Blk.new w 5 _, (Below.refl _ _).alloc (Nat.le_refl _) _⟩
  case round =>
    obtain ⟨k, hk, rfl, hI⟩ := hrel
    have hMM := HM.out
    by_cases hkn : k < n
    · obtain ⟨ad, rfl, e1⟩ := bool_at (h.out.below (hI.out.2.mono hB)) hkn
      cases hf : f k with
      | true =>
        rw [hf] at e1
        have e2 : wr.cell? ⟨w.heap.size, k / 8, none⟩ = some (.int .u8 (yN f k (k / 8) : Nat)) := by
          rw [hI.out.1.cell, ← Array.getElem?_toList]
          exact ycs_get f k (by omega)
        have f2 := hI.out.1.frozen (k / 8)
        have hor := hid (or_byte2 (yN f k (k / 8)) (k % 8) (yN_lt _ _ _) (by omega))
        have hset := hid (hI.out.1.set_ (k / 8) (.int .u8 (yN f k (k / 8) ||| 2 ^ (k % 8) : Nat)))
        have hnx := hid (ycs_next f (m := m) hf)
        have HMM := hid hMM
        clear hf hMM
        go_wp2_with fail
        go_roundw
        case rel =>
          refine ⟨k + 1, by omega, by go_num, hid ⟨?_, hI.out.2.setCell (p := ⟨w.heap.size, k / 8, none⟩) (Nat.le_refl _) _⟩⟩
          have := hset.out
          rw [hnx.out, ← hor.out] at this
          exact this
        case measure => simp [intOf]; omega
      | false =>
        rw [hf] at e1
        have hsm := hid (ycs_same f (m := m) hf)
        clear hf hMM
        go_wp2_with fail
        go_roundw
        case rel => exact ⟨k + 1, by omega, by go_num, hid ⟨by rw [hsm.out]; exact hI.out.1, hI.out.2⟩⟩
        case measure => simp [intOf]; omega
    · obtain rfl : k = n := by omega
      have hl : (rtextL k f).length = m := by rw [HM.out]; simp [rtextL]
      have hcv : (convert 67 9 (.slice (some ⟨w.heap.size, 0, none⟩) m m)).run Tryd.prog wr = .ok (.string ⟨(rtextL k f).toArray⟩) wr := by
        have := run_convert_bytes_back (P := Tryd.prog) wr 67 9 5 ⟨w.heap.size, 0, none⟩ m (rtextL k f) Tryd.underlying67 Tryd.underlying5 Tryd.underlying9 (fun j hj => by
          rw [add_plain, hI.out.1.cell, ← Array.getElem?_toList]
          have h1 : (rtextL k f)[j] = UInt8.ofNat (yN f k j) := by simp [rtextL]
          have hb := yN_lt f k j
          have h2 : (UInt8.ofNat (yN f k j)).toNat = yN f k j := by simp; omega
          rw [h1, h2]
          exact ycs_get f k (by omega))
        rw [hl] at this
        exact this
      clear hl hMM
      go_wp2_with fail
      go_ret
      exact ⟨rfl, hI.out.2⟩
end
end Go.Proofs.YtafndflddlieiaaDoor
