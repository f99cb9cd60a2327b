/- The walks of the matrix and of Join: so many zero bytes, by doubling. -/
import Derived.Test.YtindcpheammaeaaSums
import Derived.Test.YtindcpheammaeaaLin
import Derived.Deep.RegionHeld3
namespace Go.Proofs.Ytindcpheammaeaa
open Go.RowKit
attribute [local go_sem] U_and U_xor U_and_one U_poly_and U_half U_neg U_bit U_not U_byte U_byte_mod U_xor_poly U_xor_max

/-- The matrix at block g holds F at each bit. -/
def MatIs (w : World) (g : Nat) (F : BitVec 32 → BitVec 32) : Prop :=
  Blk w g 47 ((List.range 32).map fun i => Value.int .u32 (U (F (1#32 <<< i)))).toArray
theorem MatIs.at_ {w : World} {g : Nat} {F : BitVec 32 → BitVec 32} (h : MatIs w g F) {i : Nat} (hi : i < 32) : w.cell? ⟨g, i, none⟩ = some (.int .u32 (U (F (1#32 <<< i)))) := by
  rw [Blk.cell h]
  simp [hi]

set_option maxHeartbeats 800000 in
theorem times_any {g : Nat} {F : BitVec 32 → BitVec 32} (hF : Lin F) {w : World} (h : Hid (MatIs w g F)) (v : BitVec 32) :
    Calls Try.prog 23 #[.pointer (some ⟨g, 0, none⟩), .int .u32 (U v)] w fun e w' => e = .returned (.int .u32 (U (F v))) ∧ w = w' := by
  have HF := hid hF
  clear hF
  go_enter Try.func23, Try.ntmps23
  go_wp2
  go_loop [1, 5, 6] (fun x o i => ∃ (k : Nat) (y out : BitVec 32), i = .int .i64 k ∧ x = .int .u32 (U y) ∧ o = .int .u32 (U out) ∧ k ≤ 32 ∧ Hid (y = v >>> k) ∧ Hid (F (y <<< k) ^^^ out = F v)) (fun _ _ i => 32 - (intOf i).toNat)
  case atStart => exact ⟨0, v, 0#32, rfl, rfl, rfl, by omega, by simp [Hid], by simp [Hid]⟩
  case round =>
    obtain ⟨k, y, out, rfl, rfl, rfl, hk, hy, ho⟩ := hrel
    by_cases hz : y = 0#32
    · subst hz
      have ht : (U (0#32) != (0 : Int)) = false := rfl
      go_wp2
      go_ret
      have := ho.out
      rw [BitVec.zero_shiftLeft, HF.out.zero, BitVec.zero_xor] at this
      rw [← this]
      exact ⟨rfl, rfl⟩
    · have hk32 : k < 32 := by
        rcases Nat.lt_or_ge k 32 with h1 | h1
        · exact h1
        · exact absurd (by rw [hy.out]; exact BitVec.ushiftRight_eq_zero h1) hz
      have ht : (U y != (0 : Int)) = true := by
        rw [bne_iff_ne]
        intro e
        exact hz (U_inj.1 (show U y = U 0#32 from e))
      have hc := h.out.at_ hk32
      have HZ := hid hz
      clear hz
      go_wp2
      go_round
      case rel =>
        refine ⟨k + 1, y >>> 1, out ^^^ (F (1#32 <<< k) &&& -(y &&& 1#32)), by go_num, rfl, rfl, by omega, ?_, ?_⟩
        · exact hid (by rw [hy.out, ← BitVec.shiftRight_add])
        · exact hid (by rw [times_step F HF.out, ho.out])
      case measure => simp [intOf]; omega

/-- The first k of the matrix hold F, the others 0. -/
def MatTo (w : World) (g k : Nat) (F : BitVec 32 → BitVec 32) : Prop :=
  Blk w g 47 ((List.range 32).map fun i => Value.int .u32 (U (if i < k then F (1#32 <<< i) else 0#32))).toArray
theorem MatTo.set_ {w : World} {g k : Nat} {F : BitVec 32 → BitVec 32} (h : MatTo w g k F) (n : Nat) : MatTo ((w.setCell ⟨g, k, none⟩ (.int .u32 (U (F (1#32 <<< k))))).drewN n) g (k + 1) F := by
  have := (Blk.set_ h k (.int .u32 (U (F (1#32 <<< k))))).drewN n
  refine cast ?_ this
  unfold MatTo
  congr 1
  rw [List.setIfInBounds_toArray]
  congr 1
  apply List.ext_getElem?
  intro i
  rw [List.getElem?_set]
  simp only [List.getElem?_map, List.length_map, List.length_range]
  by_cases hi : i < 32
  · rw [List.getElem?_range hi]
    by_cases hk : k = i
    · subst hk; simp [hi]
    · simp [hk, show (i < k) = (i < k + 1) from by apply propext; omega]
  · rw [List.getElem?_eq_none (by simpa using hi)]
    split
    · rename_i e
      subst e
      simp [hi]
    · rfl
theorem MatTo.full {w : World} {g : Nat} {F : BitVec 32 → BitVec 32} (h : MatTo w g 32 F) : MatIs w g F := by
  refine cast ?_ h
  unfold MatTo MatIs
  congr 2
theorem MatTo.cell {w : World} {g k : Nat} {F : BitVec 32 → BitVec 32} (h : MatTo w g k F) {i : Nat} (hi : i < 32) : ∃ u : Int, w.cell? ⟨g, i, none⟩ = some (.int .u32 u) ∧ w.frozen? ⟨g, i, none⟩ = false :=
  ⟨_, by rw [Blk.cell h]; simp [hi]; rfl, Blk.frozen h i⟩
theorem MatIs.only {w w' : World} {g : Nat} {F : BitVec 32 → BitVec 32} {S : Nat → Prop} (h : MatIs w g F) (ho : Only S w w') (hg : ¬ S g) : MatIs w' g F := Blk.only h ho hg

theorem pow_U (k : Nat) : IntKind.u32.wrap ((2 : Int) ^ k) = U (1#32 <<< k) := by
  unfold U
  rw [IntKind.wrap_u32, BitVec.toNat_shiftLeft, Nat.shiftLeft_eq]
  have h : ((2 : Int) ^ k) = ((2 ^ k : Nat) : Int) := by rw [Int.natCast_pow]; rfl
  rw [h]
  show _ = (((1 * 2 ^ k) % 2 ^ 32 : Nat) : Int)
  omega
theorem MatTo.zero (w : World) (F : BitVec 32 → BitVec 32) : MatTo (w.alloc (.cells #[.int .u32 0, .int .u32 0, .int .u32 0, .int .u32 0, .int .u32 0, .int .u32 0, .int .u32 0, .int .u32 0, .int .u32 0, .int .u32 0, .int .u32 0, .int .u32 0, .int .u32 0, .int .u32 0, .int .u32 0, .int .u32 0, .int .u32 0, .int .u32 0, .int .u32 0, .int .u32 0, .int .u32 0, .int .u32 0, .int .u32 0, .int .u32 0, .int .u32 0, .int .u32 0, .int .u32 0, .int .u32 0, .int .u32 0, .int .u32 0, .int .u32 0, .int .u32 0] 47)) w.heap.size 0 F :=
  Blk.new w 47 _

set_option maxHeartbeats 800000 in
theorem one_any {w : World} :
    Calls Try.prog 22 #[] w fun e w' => ∃ g, e = .returned (.pointer (some ⟨g, 0, none⟩)) ∧ MatIs w' g eightB ∧ Below w.heap.size w w' := by
  go_enter Try.func22, Try.ntmps22
  go_wp2
  go_loopw [5] (fun i wr => ∃ k : Nat, k ≤ 32 ∧ i = .int .i64 k ∧ MatTo wr w.heap.size k eightB ∧ Below w.heap.size w wr) (fun i _ => 32 - (intOf i).toNat)
  case atStart => exact ⟨0, by omega, rfl, MatTo.zero w _, (Below.refl _ _).alloc (Nat.le_refl _) _⟩
  case round =>
    obtain ⟨k, hk, rfl, hm, hb⟩ := hrel
    by_cases hk32 : k < 32
    · obtain ⟨u, hu, hf⟩ := hm.cell hk32
      have HM := hid hm
      have HB := hid hb
      clear hm hb
      go_wp2_with fail
      have hp := pow_U k
      go_region_with (go_at_call 18; with_reducible refine (eight_any _ _).mono ?_; rintro e w' ⟨rfl, rfl⟩)
      all_goals go_wp2_with fail
      all_goals go_roundw
      all_goals first
        | exact ⟨k + 1, by omega, by go_num, HM.out.set_ 1, below_drewN (HB.out.setCell (Nat.le_refl _) _) 1⟩
        | (simp [intOf]; omega)
    · obtain rfl : k = 32 := by omega
      have HM := hid hm
      have HB := hid hb
      clear hm hb
      go_wp2
      go_ret
      exact ⟨_, rfl, HM.out.full, HB.out⟩

set_option maxHeartbeats 800000 in
theorem twice_any {g : Nat} {F : BitVec 32 → BitVec 32} (hF : Lin F) {w : World} (h : Hid (MatIs w g F)) :
    Calls Try.prog 24 #[.pointer (some ⟨g, 0, none⟩)] w fun e w' => ∃ g', e = .returned (.pointer (some ⟨g', 0, none⟩)) ∧ MatIs w' g' (fun x => F (F x)) ∧ Below w.heap.size w w' := by
  have HF := hid hF
  clear hF
  go_enter Try.func24, Try.ntmps24
  go_wp2
  go_loopw [7] (fun i wr => ∃ k : Nat, k ≤ 32 ∧ i = .int .i64 k ∧ MatTo wr w.heap.size k (fun x => F (F x)) ∧ Below w.heap.size w wr) (fun i _ => 32 - (intOf i).toNat)
  case atStart => exact ⟨0, by omega, rfl, MatTo.zero w _, (Below.refl _ _).alloc (Nat.le_refl _) _⟩
  case round =>
    obtain ⟨k, hk, rfl, hm, hb⟩ := hrel
    by_cases hk32 : k < 32
    · obtain ⟨u, hu, hf⟩ := hm.cell hk32
      have HW : Hid (MatIs wr g F) := hid (Blk.below h.out hb (Blk.lt h.out))
      have hc := HW.out.at_ hk32
      have HM := hid hm
      have HB := hid hb
      clear hm hb
      have hcall : Hid (∀ W : World, W.heap = wr.heap → Calls Try.prog 23 #[.pointer (some ⟨g, 0, none⟩), .int .u32 (U (F (1#32 <<< k)))] W fun e w' => e = .returned (.int .u32 (U (F (F (1#32 <<< k))))) ∧ W = w') :=
        hid fun W hW => times_any HF.out (hid (by have := HW.out; unfold MatIs Blk at this ⊢; rw [hW]; exact this)) _
      go_wp2_with fail
      go_region_with (go_at_call 23; (with_reducible refine (hcall.out _ ?_).mono ?_); (rfl); rintro e w' ⟨rfl, rfl⟩)
      all_goals go_wp2_with fail
      all_goals go_roundw
      all_goals first
        | exact ⟨k + 1, by omega, by go_num, HM.out.set_ 1, below_drewN (HB.out.setCell (Nat.le_refl _) _) 1⟩
        | (simp [intOf]; omega)
    · obtain rfl : k = 32 := by omega
      have HM := hid hm
      have HB := hid hb
      clear hm hb
      go_wp2
      go_ret
      exact ⟨_, rfl, HM.out.full, HB.out⟩

theorem zerosN_double (k : Nat) : (fun x => zerosN k (zerosN k x)) = zerosN (k + k) := by
  funext x
  rw [zerosN_add]
theorem i64_and_one (n : Nat) (h : n ≤ 65536) : bits .and .i64 (n : Int) (1 : Int) = ((n % 2 : Nat) : Int) := by
  have h1 : (BitVec.ofInt 64 (n : Int)).toNat = n := by rw [BitVec.ofInt_natCast, BitVec.toNat_ofNat]; exact Nat.mod_eq_of_lt (by omega)
  show IntKind.i64.wrap ((BitVec.ofInt 64 (n : Int) &&& BitVec.ofInt 64 1).toNat : Int) = _
  rw [BitVec.toNat_and, h1, show (BitVec.ofInt 64 1).toNat = 1 from rfl, Nat.and_one_is_mod, IntKind.wrap_i64]
  omega

set_option maxHeartbeats 800000 in
theorem join_bad {x y : Int} {n : Int} {w : World} (h : n < 0 ∨ 65536 < n) :
    Calls Try.prog 17 #[.int .u32 x, .int .u32 y, .int .i64 n] w fun e w' => e = .returned (.tuple #[.int .u32 0, .int .i64 1]) ∧ w = w' := by
  by_cases h0 : n < 0
  · go_enter Try.func17, Try.ntmps17
    go_wp2_with fail
    go_ret2
    exact ⟨rfl, rfl⟩
  · have h1 : 65536 < n := by omega
    clear h
    go_enter Try.func17, Try.ntmps17
    go_wp2_with fail
    go_ret2
    exact ⟨rfl, rfl⟩

set_option maxHeartbeats 800000 in
theorem join_any {a b : BitVec 32} {n : Nat} {w : World} (hn : n ≤ 65536) :
    Calls Try.prog 17 #[.int .u32 (U a), .int .u32 (U b), .int .i64 n] w fun e w' => e = .returned (.tuple #[.int .u32 (U (joinB a b n)), .int .i64 0]) ∧ Below w.heap.size w w' := by
  go_enter Try.func17, Try.ntmps17
  go_wp2_with fail
  refine one_any.mono ?_
  rintro e w1 ⟨g, rfl, hm, hb⟩
  have M1 := hid (show MatIs w1 g (zerosN (2 ^ 0)) from hm)
  have B1 := hid hb
  clear hm hb
  go_wp2_with fail
  go_loopw [0, 2, 8] (fun x m p wr => ∃ (j n' g' : Nat) (a' : BitVec 32), x = .int .u32 (U a') ∧ m = .int .i64 n' ∧ p = .pointer (some ⟨g', 0, none⟩) ∧ n' ≤ 65536 ∧ MatIs wr g' (zerosN (2 ^ j)) ∧ Below w.heap.size w wr ∧ Hid (zerosN (n' * 2 ^ j) a' = zerosN n a)) (fun _ m _ _ => (intOf m).toNat)
  case atStart => exact ⟨0, n, g, a, rfl, rfl, rfl, hn, M1.out, B1.out, by simp [Hid]⟩
  case round =>
    obtain ⟨j, n', g', a', rfl, rfl, rfl, hn', hm, hb, hz⟩ := hrel
    have M2 := hid hm
    have B2 := hid hb
    clear hm hb
    by_cases h0 : n' = 0
    · subst h0
      go_wp2_with fail
      go_ret2
      refine ⟨?_, B2.out⟩
      have := hz.out
      rw [Nat.zero_mul] at this
      unfold joinB
      rw [← this]
      rfl
    · have hand := i64_and_one n' hn'
      rcases Nat.mod_two_eq_zero_or_one n' with h1 | h1
      · rw [h1] at hand
        have H1 := hid h1
        have H0 : 0 < n' := by omega
        clear h1 h0
        go_wp2_with fail
        refine (twice_any (lin_zerosN _) M2).mono ?_
        rintro e w3 ⟨g3, rfl, hm, hb⟩
        have M3 := hid hm
        have B3 := hid (B2.out.trans (hb.mono B2.out.size))
        clear hm hb
        go_wp2_with fail
        go_roundw
        case rel =>
          refine ⟨j + 1, n' / 2, g3, a', rfl, by go_num, rfl, by omega, ?_, B3.out, ?_⟩
          · have := M3.out
            rw [zerosN_double] at this
            rw [show 2 ^ (j + 1) = 2 ^ j + 2 ^ j by omega]
            exact this
          · refine hid ?_
            rw [← hz.out]
            congr 1
            obtain ⟨q, rfl⟩ : ∃ q, n' = 2 * q := ⟨n' / 2, by have := H1.out; omega⟩
            rw [Nat.mul_div_cancel_left _ (by omega), Nat.pow_succ, Nat.mul_comm 2 q, Nat.mul_assoc, Nat.mul_comm 2 (2 ^ j)]
        case measure => simp [intOf]; omega
      · rw [h1] at hand
        have H1 := hid h1
        have H0 : 0 < n' := by omega
        clear h1 h0
        go_wp2_with fail
        refine (times_any (lin_zerosN _) M2 _).mono ?_
        rintro e w3 ⟨rfl, rfl⟩
        go_wp2_with fail
        refine (twice_any (lin_zerosN _) M2).mono ?_
        rintro e w3 ⟨g3, rfl, hm, hb⟩
        have M3 := hid hm
        have B3 := hid (B2.out.trans (hb.mono B2.out.size))
        clear hm hb
        go_wp2_with fail
        go_roundw
        case rel =>
          refine ⟨j + 1, n' / 2, g3, zerosN (2 ^ j) a', rfl, by go_num, rfl, by omega, ?_, B3.out, ?_⟩
          · have := M3.out
            rw [zerosN_double] at this
            rw [show 2 ^ (j + 1) = 2 ^ j + 2 ^ j by omega]
            exact this
          · refine hid ?_
            rw [← hz.out, ← zerosN_add]
            congr 1
            obtain ⟨q, rfl⟩ : ∃ q, n' = 2 * q + 1 := ⟨n' / 2, by have := H1.out; omega⟩
            rw [show (2 * q + 1) / 2 = q by omega, Nat.pow_succ, Nat.add_mul, Nat.one_mul, Nat.mul_comm 2 q, Nat.mul_assoc, Nat.mul_comm 2 (2 ^ j), Nat.add_comm]
        case measure => simp [intOf]; omega

end Go.Proofs.Ytindcpheammaeaa
