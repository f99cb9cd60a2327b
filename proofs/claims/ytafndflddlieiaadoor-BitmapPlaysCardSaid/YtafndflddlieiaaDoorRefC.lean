/- The reference's New and Read. -/
import Derived.Test.YtafndflddlieiaaDoorFill
import Derived.Test.YtafndflddlieiaaDoorRefB
namespace Go.Proofs.YtafndflddlieiaaDoor
open Go.RowKit
attribute [local irreducible] wpQuiet
attribute [local go_sem high] run_mxI run_mnI

theorem info4 : (Tryd.prog.info? 4).map (fun i => (i.zero, i.size, i.bytes)) = some (some (.bool false), 1, 1) := by kernel_rfl
theorem run_make4 (m : Nat) (hm : m ≤ 4096) (w : World) : (Instr.makeSlice 40 (.int .i64 m) (.int .i64 m)).run Tryd.prog w = .ok (.slice (some ⟨w.heap.size, 0, none⟩) m m) (w.alloc (.cells (bcs (fun _ => false) m).toArray 4)) := by
  obtain ⟨i0, hi, hzz⟩ := Option.map_eq_some_iff.1 info4
  simp only [Prod.mk.injEq] at hzz
  obtain ⟨hz0, hz1, hz2⟩ := hzz
  have := run_makeSlice (P := Tryd.prog) (w := w) 40 4 i0 (.bool false) Tryd.underlying40 hi hz0 .i64 .i64 (m : Int) (m : Int) (by omega) (by omega) (by rw [hz1]; simp; omega) (by rw [hz2]; simp; omega) (by omega)
  have hc : madeCells (Value.bool false).cells (m * i0.size) = (bcs (fun _ => false) m).toArray := by
    rw [hz1]
    apply Array.ext'
    apply List.ext_getElem
    · simp [madeCells, bcs]
    · intro i h1 h2
      have e : ∀ i : Nat, (Value.bool false).cells[i % (Value.bool false).cells.size]! = Value.bool false := by
        intro i
        have : (Value.bool false).cells = #[Value.bool false] := rfl
        rw [this, show i % (#[Value.bool false] : Array Value).size = 0 from Nat.mod_one i]
        rfl
      simp [madeCells, bcs, e]
  rw [← hc]
  simpa using this
theorem bcs_set (f : Nat → Bool) {n i : Nat} (_hi : i < n) (b : Bool) : (bcs f n).toArray.setIfInBounds i (.bool b) = (bcs (fun y => if y = i then b else f y) n).toArray := by
  apply Array.ext'
  apply List.ext_getElem
  · simp [bcs]
  · intro j h1 h2
    simp [bcs, List.getElem_set]
    by_cases h : i = j
    · subst h; simp
    · rw [if_neg h, if_neg (by omega)]
theorem blk_holds {w : World} {g n : Nat} {f : Nat → Bool} (h : Blk w g 4 (bcs f n).toArray) (hg : g < w.heap.size) : Holds w w.heap.size (some ⟨g, 0, none⟩) (bcs f n) := by
  have := Holds.of_blk (B := w.heap.size) h 0 n hg
  have e : (((bcs f n).toArray.toList.drop 0).take n) = bcs f n := by
    rw [List.drop_zero]
    exact List.take_of_length_le (by rw [bcs_length]; exact Nat.le_refl _)
  rwa [e] at this

theorem rnew_any {m : Int} {N : Nat} {w : World} (hN : mnI (mxI m 0) 4096 = (N : Int)) (hN4 : N ≤ 4096) :
    Calls Tryd.prog 17 #[.int .i64 m] w fun e w' => e = .returned (.slice (some ⟨w.heap.size, 0, none⟩) N N) ∧ Holds w' w'.heap.size (some ⟨w.heap.size, 0, none⟩) (bcs (fun _ => false) N) ∧ Below w.heap.size w w' := by
  have hmk := run_make4 N hN4 w
  have HN := hid hN
  clear hN
  go_enter Tryd.func17, Tryd.ntmps17
  have hN := HN.out
  go_wp2_with fail
  go_ret
  exact ⟨rfl, blk_holds (Blk.new w 4 _) (by simp), (Below.refl _ _).alloc (Nat.le_refl _) _⟩

theorem rread_arg (s : ByteArray) {n : Int} (hn : n < 0 ∨ 4096 < n) (w : World) : Calls Tryd.prog 29 #[.string s, .int .i64 n] w fun e w' => e = .returned (.tuple #[.slice none 0 0, .int .i64 1]) ∧ w = w' := by
  rcases hn with h | h
  · go_enter Tryd.func29, Tryd.ntmps29
    go_wp2_with fail
    go_ret2
    exact ⟨rfl, rfl⟩
  · have h0 : ¬ n < 0 := by omega
    go_enter Tryd.func29, Tryd.ntmps29
    go_wp2_with fail
    go_ret2
    exact ⟨rfl, rfl⟩
theorem rread_size (s : ByteArray) {n : Nat} (hn : n ≤ 4096) (hne : s.size ≠ (n + 7) / 8) (w : World) : Calls Tryd.prog 29 #[.string s, .int .i64 n] w fun e w' => e = .returned (.tuple #[.slice none 0 0, .int .i64 2]) ∧ w = w' := by
  have hd : ((s.size : Int) != ((n : Int) + 7) / 8) = true := by
    have : (s.size : Int) ≠ ((n : Int) + 7) / 8 := by omega
    simpa using this
  clear hne
  go_enter Tryd.func29, Tryd.ntmps29
  go_wp2_with fail
  go_ret2
  exact ⟨rfl, rfl⟩
theorem u8_one (b : UInt8) (r : Nat) : bits .and .u8 ((b.toNat : Int) / 2 ^ r) 1 = (if b.toNat.testBit r then 1 else 0) := by
  have h1 : (b.toNat : Int) / 2 ^ r = ((b.toNat / 2 ^ r : Nat) : Int) := by
    rw [Int.natCast_ediv, Int.natCast_pow]
    rfl
  have h2 : b.toNat / 2 ^ r < 256 := Nat.lt_of_le_of_lt (Nat.div_le_self _ _) b.toNat_lt
  have h4 := u8_and_nat _ 1 h2 (by omega)
  rw [Nat.and_one_is_mod] at h4
  rw [h1]
  refine h4.trans ?_
  rw [Nat.testBit_eq_decide_div_mod_eq]
  by_cases h : b.toNat / 2 ^ r % 2 = 1
  · simp [h]
  · have : b.toNat / 2 ^ r % 2 = 0 := by
      generalize b.toNat / 2 ^ r = y at *
      omega
    simp [this]
theorem sB_bit (s : ByteArray) {k : Nat} (hk : k / 8 < s.size) : bits .and .u8 ((s[k / 8].toNat : Int) / 2 ^ (k % 8)) 1 = (if sB s k then 1 else 0) := by
  have h2 : k / 8 < s.data.toList.length := by simpa using hk
  have hb : byteAt s (k / 8) = s[k / 8] := by
    unfold byteAt
    rw [List.getD_eq_getElem?_getD, List.getElem?_eq_getElem h2]
    rfl
  unfold sB
  rw [hb]
  exact u8_one _ _
set_option maxHeartbeats 800000 in
theorem rread_any (s : ByteArray) {n : Nat} (hn : n ≤ 4096) (hs : s.size = (n + 7) / 8) (w : World) : Calls Tryd.prog 29 #[.string s, .int .i64 n] w fun e w' =>
    ((∀ y, n ≤ y → sB s y = false) ∧ e = .returned (.tuple #[.slice (some ⟨w.heap.size, 0, none⟩) n n, .int .i64 0]) ∧ Holds w' w'.heap.size (some ⟨w.heap.size, 0, none⟩) (bcs (sB s) n) ∧ Below w.heap.size w w') ∨
    ((¬ ∀ y, n ≤ y → sB s y = false) ∧ e = .returned (.tuple #[.slice none 0 0, .int .i64 3]) ∧ Below w.heap.size w w') := by
  have hd : ((s.size : Int) != ((n : Int) + 7) / 8) = false := by
    have : (s.size : Int) = ((n : Int) + 7) / 8 := by omega
    simpa using this
  have hmk := run_make4 n hn w
  have hs5 : s.size ≤ 512 := by omega
  have HS := hid hs
  clear hs
  go_enter Tryd.func29, Tryd.ntmps29
  go_wp2_with fail
  go_loopw [7] (fun v7 wr => ∃ k : Nat, k ≤ 8 * s.size ∧ v7 = .int .i64 k ∧ Hid (Blk wr w.heap.size 4 (bcs (fun y => decide (y < k) && sB s y) n).toArray ∧ (∀ y, n ≤ y → y < k → sB s y = false) ∧ Below w.heap.size w wr)) (fun v7 _ => 8 * s.size - (intOf v7).toNat)
  case atStart => exact ⟨0, Nat.zero_le _, rfl, by have := Blk.new w 4 (bcs (fun _ => false) n).toArray; simpa using this, fun y h1 h2 => by omega, (Below.refl _ _).alloc (Nat.le_refl _) _⟩
  case round =>
    obtain ⟨k, hk, rfl, hI⟩ := hrel
    by_cases hkn : k < 8 * s.size
    · have hk8 : k / 8 < s.size := by omega
      have hbit := sB_bit s hk8
      cases hb : sB s k with
      | true =>
        rw [hb] at hbit
        simp only [if_true] at hbit
        have HB := hid hb
        clear hb
        by_cases hkn2 : k < n
        · obtain ⟨u, hu⟩ : ∃ u, wr.cell? ⟨w.heap.size, k, none⟩ = some u := by
            rw [hI.out.1.cell]
            have : k < (bcs (fun y => decide (y < k) && sB s y) n).toArray.size := by rw [List.size_toArray, bcs_length]; exact hkn2
            exact ⟨_, Array.getElem?_eq_getElem this⟩
          have fk := hI.out.1.frozen k
          go_wp2_with fail
          go_roundw
          case rel =>
            refine ⟨k + 1, by omega, by go_num, hid ⟨?_, fun y h1 h2 => hI.out.2.1 y h1 (by omega), hI.out.2.2.setCell (p := ⟨w.heap.size, k, none⟩) (Nat.le_refl _) _⟩⟩
            have hset := hI.out.1.set_ k (.bool true)
            rw [bcs_set _ hkn2] at hset
            have e : (fun y => if y = k then true else decide (y < k) && sB s y) = (fun y => decide (y < k + 1) && sB s y) := by
              funext y
              by_cases h1 : y = k
              · subst h1; simp [HB.out]
              · by_cases h2 : y < k
                · have : y < k + 1 := by omega
                  simp [h1, h2, this]
                · have : ¬ y < k + 1 := by omega
                  simp [h1, h2, this]
            rw [e] at hset
            exact hset
          case measure => simp [intOf]; omega
        · have hkn3 : (n : Int) ≤ k := by omega
          go_wp2_with fail
          go_ret2
          exact Or.inr ⟨fun h => by have := h k (by omega); rw [HB.out] at this; exact absurd this (by decide), rfl, hI.out.2.2⟩
      | false =>
        rw [hb] at hbit
        simp only [Bool.false_eq_true, if_false] at hbit
        have HB := hid hb
        clear hb
        go_wp2_with fail
        go_roundw
        case rel =>
          refine ⟨k + 1, by omega, by go_num, hid ⟨?_, fun y h1 h2 => ?_, hI.out.2.2⟩⟩
          · have e : (fun y => decide (y < k) && sB s y) = (fun y => decide (y < k + 1) && sB s y) := by
              funext y
              by_cases h1 : y = k
              · subst h1; simp [HB.out]
              · by_cases h2 : y < k
                · have : y < k + 1 := by omega
                  simp [h2, this]
                · have : ¬ y < k + 1 := by omega
                  simp [h2, this]
            rw [← e]
            exact hI.out.1
          · rcases Nat.lt_succ_iff_lt_or_eq.1 h2 with h3 | rfl
            · exact hI.out.2.1 y h1 h3
            · exact HB.out
        case measure => simp [intOf]; omega
    · obtain rfl : k = 8 * s.size := by omega
      have hall : ∀ y, n ≤ y → sB s y = false := fun y hy => by
        by_cases h1 : y < 8 * s.size
        · exact hI.out.2.1 y hy h1
        · unfold sB
          rw [byteAt_out s (by omega)]
          simp
      have e : (fun y => decide (y < 8 * s.size) && sB s y) = sB s := by
        funext y
        by_cases h1 : y < 8 * s.size
        · simp [h1]
        · have : sB s y = false := by unfold sB; rw [byteAt_out s (by omega)]; simp
          simp [h1, this]
      have hb1 := hI.out.1
      rw [e] at hb1
      have HBL := hid hb1
      have HALL := hid hall
      clear hall hb1 e
      go_wp2_with fail
      go_ret2
      exact Or.inl ⟨HALL.out, rfl, blk_holds HBL.out HBL.out.lt, hI.out.2.2⟩
end Go.Proofs.YtafndflddlieiaaDoor
