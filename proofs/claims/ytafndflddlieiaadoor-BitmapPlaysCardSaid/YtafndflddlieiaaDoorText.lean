/- Text. -/
import Derived.Test.YtafndflddlieiaaDoorTake
namespace Go.Proofs.YtafndflddlieiaaDoor
open Go.RowKit
attribute [local irreducible] wpQuiet
attribute [local go_sem high] run_mxI run_mnI
attribute [local go_sem] U_shr

def byteN (W : Nat → BitVec 64) (i : Nat) : Nat := (W (i / 8)).toNat / 2 ^ (8 * (i % 8)) % 256
section
variable {b n : Nat} {W : Nat → BitVec 64} {w : World}
theorem text_nil (w : World) : Calls Tryd.prog 11 #[.pointer none] w fun e w' => e = .returned (.string ⟨#[]⟩) ∧ w = w' := by
  go_enter Tryd.func11, Tryd.ntmps11
  go_wp2_with fail
  go_ret
  exact ⟨rfl, rfl⟩
theorem U_byte (W : Nat → BitVec 64) (k : Nat) : U (W (k / 8) >>> (8 * (k % 8))) % 256 = (byteN W k : Nat) := by
  unfold U byteN
  rw [BitVec.toNat_ushiftRight, Nat.shiftRight_eq_div_pow]
  omega
def textL (n : Nat) (W : Nat → BitVec 64) : List UInt8 := (List.range ((n + 7) / 8)).map fun i => UInt8.ofNat (byteN W i)
theorem info5 : (Tryd.prog.info? 5).map (fun i => (i.zero, i.size, i.bytes)) = some (some (.int .u8 0), 1, 1) := by kernel_rfl
theorem run_make8 (m : Nat) (hm : m ≤ 4096) (w : World) : ∃ cs : Array Value, cs.size = m ∧ (Instr.makeSlice 67 (.int .i64 m) (.int .i64 m)).run Tryd.prog w = .ok (.slice (some ⟨w.heap.size, 0, none⟩) m m) (w.alloc (.cells cs 5)) := by
  obtain ⟨i0, hi, hzz⟩ := Option.map_eq_some_iff.1 info5
  simp only [Prod.mk.injEq] at hzz
  obtain ⟨hz0, hz1, hz2⟩ := hzz
  have := run_makeSlice (P := Tryd.prog) (w := w) 67 5 i0 (.int .u8 0) Tryd.underlying67 hi hz0 .i64 .i64 (m : Int) (m : Int) (by omega) (by omega) (by rw [hz1]; simp; omega) (by rw [hz2]; simp; omega) (by omega)
  refine ⟨_, ?_, this⟩
  simp [hz1, madeCells]
set_option maxHeartbeats 800000 in
theorem text_any (h : Hid (MapIs w b n W)) (hn : n ≤ 4096) :
    Calls Tryd.prog 11 #[.pointer (some ⟨b, 0, none⟩)] w fun e w' => e = .returned (.string ⟨(textL n W).toArray⟩) ∧ Below w.heap.size w w' := by
  have e0 := MapIs.e0 h.out
  have hlt := Blk.lt h.out
  obtain ⟨m, hm⟩ : ∃ m, m = (n + 7) / 8 := ⟨_, rfl⟩
  have hm2 : m ≤ 512 := by omega
  have hmi : ((n : Int) + 7) / 8 = (m : Int) := by omega
  obtain ⟨cs0, hcs0, hmk⟩ := run_make8 m (by omega) w
  have HM := hid hm
  clear hm
  go_enter Tryd.func11, Tryd.ntmps11
  go_wp2_with fail
  go_loopw [16] (fun i wr => ∃ (k : Nat) (cs : Array Value), k ≤ m ∧ i = .int .i64 k ∧ Hid (Blk wr w.heap.size 5 cs ∧ cs.size = m ∧ (∀ i, i < k → cs[i]? = some (.int .u8 (byteN W i : Nat))) ∧ Below w.heap.size w wr)) (fun i _ => m - (intOf i).toNat)
  case atStart => exact ⟨0, cs0, Nat.zero_le _, rfl, Blk.new w 5 cs0, hcs0, fun i hi => absurd hi (by omega), (Below.refl _ _).alloc (Nat.le_refl _) _⟩
  case round =>
    obtain ⟨k, cs, hk, rfl, hI⟩ := hrel
    have hMr := hid (Blk.below h.out hI.out.2.2.2 hlt)
    by_cases hkm : k < m
    · have e1 := MapIs.e1 hMr.out (j := k / 8) (by omega)
      have hcell : ∃ u, wr.cell? ⟨w.heap.size, k, none⟩ = some u := by
        rw [hI.out.1.cell]
        have : k < cs.size := by rw [hI.out.2.1]; exact hkm
        exact ⟨_, Array.getElem?_eq_getElem this⟩
      obtain ⟨u, hu⟩ := hcell
      have fk := hI.out.1.frozen k
      have hby := hid (U_byte W k)
      go_wp2_with fail
      go_roundw
      case rel =>
        rw [hby.out]
        refine ⟨k + 1, cs.setIfInBounds k (.int .u8 (byteN W k : Nat)), by omega, by go_num, hid ⟨hI.out.1.set_ k _, by simpa using hI.out.2.1, fun i hi => ?_, hI.out.2.2.2.setCell (p := ⟨w.heap.size, k, none⟩) (Nat.le_refl _) _⟩⟩
        rw [Array.getElem?_setIfInBounds]
        by_cases hik : k = i
        · subst hik
          rw [if_pos rfl, if_pos (by rw [hI.out.2.1]; exact hkm)]
        · rw [if_neg hik]
          exact hI.out.2.2.1 i (by omega)
      case measure => simp [intOf]; omega
    · obtain rfl : k = m := by omega
      have hl : (textL n W).length = k := by rw [HM.out]; simp [textL]
      have hcv : (convert 67 9 (.slice (some ⟨w.heap.size, 0, none⟩) k k)).run Tryd.prog wr = .ok (.string ⟨(textL n W).toArray⟩) wr := by
        have := run_convert_bytes_back (P := Tryd.prog) wr 67 9 5 ⟨w.heap.size, 0, none⟩ k (textL n W) Tryd.underlying67 Tryd.underlying5 Tryd.underlying9 (fun j hj => by
          rw [add_plain, hI.out.1.cell, hI.out.2.2.1 j (by omega)]
          have : (textL n W)[j] = UInt8.ofNat (byteN W j) := by simp [textL]
          rw [this]
          have hb : byteN W j < 256 := Nat.mod_lt _ (by omega)
          have : (UInt8.ofNat (byteN W j)).toNat = byteN W j := by simp; omega
          rw [this])
        rw [hl] at this
        exact this
      clear hl
      go_wp2_with fail
      go_ret
      exact ⟨rfl, hI.out.2.2.2⟩
end
end Go.Proofs.YtafndflddlieiaaDoor
