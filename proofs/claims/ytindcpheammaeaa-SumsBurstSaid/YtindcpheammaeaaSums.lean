/- The walks of package sums, but for Join: each function, said of a register of 32 bits. -/
import Derived.Test.YtindcpheammaeaaRows
import Derived.Test.YtindcpheammaeaaBase
import Derived.Test.YtindcpheammaeaaPlain
import Derived.WalkMore
import Derived.ScopeJumps
import Derived.BigQuiet
import Derived.Deep.QuietTactic
import Derived.Laws.BitsAllLaws
import Derived.Laws.BytesArg
import Derived.Deep.RegionWith
import Derived.Deep.RegionHeld3
namespace Go.Proofs.Ytindcpheammaeaa
open Go.RowKit

/-- A register of 32 bits as Go's number. -/
def U (x : BitVec 32) : Int := (x.toNat : Int)
theorem U_nonneg (x : BitVec 32) : 0 ≤ U x := Int.natCast_nonneg _
theorem U_lt (x : BitVec 32) : U x < 4294967296 := by have := x.isLt; unfold U; omega
theorem U_inj {x y : BitVec 32} : U x = U y ↔ x = y := by
  unfold U
  constructor
  · intro h; exact BitVec.eq_of_toNat_eq (by omega)
  · intro h; rw [h]
theorem U_and (x y : BitVec 32) : bits .and .u32 (U x) (U y) = U (x &&& y) := by
  unfold U; rw [u32_and_nat _ _ x.isLt y.isLt, BitVec.toNat_and]
theorem U_xor (x y : BitVec 32) : bits .xor .u32 (U x) (U y) = U (x ^^^ y) := by
  unfold U; rw [u32_xor_nat _ _ x.isLt y.isLt, BitVec.toNat_xor]
theorem U_and_one (x : BitVec 32) : bits .and .u32 (U x) (1 : Int) = U (x &&& 1#32) := U_and x 1#32
theorem U_poly_and (x : BitVec 32) : bits .and .u32 3988292384 (U x) = U (3988292384#32 &&& x) := U_and 3988292384#32 x
theorem U_half (x : BitVec 32) : U x / (2 : Int) = U (x >>> 1) := by
  unfold U; rw [BitVec.toNat_ushiftRight, Nat.shiftRight_eq_div_pow]; omega
theorem U_neg (x : BitVec 32) : -U x % (4294967296 : Int) = U (-x) := by
  unfold U; rw [BitVec.toNat_neg]; have := x.isLt; omega
theorem U_bit (c : BitVec 32) : U (c >>> 1 ^^^ 3988292384#32 &&& -(c &&& 1#32)) = U (bit1 c) := rfl
attribute [local go_sem] U_and U_xor U_and_one U_poly_and U_half U_neg U_bit

set_option maxHeartbeats 400000 in
theorem eight_any (x : BitVec 32) (w : World) :
    Calls Try.prog 18 #[.int .u32 (U x)] w fun e w' => e = .returned (.int .u32 (U (eightB x))) ∧ w = w' := by
  go_enter Try.func18, Try.ntmps18
  go_wp2
  refine wp_scope_jumps 0 (fun a' w' => w' = w ∧ ∃ (k : Nat) (c : BitVec 32) (u4 u5 u6 u7 u8 u9 u10 u11 u12 u13 u14 u15 : Value), a' = { tmps := #[.int .u32 (U c), undef, .int .u32 0, .int .i64 ((k : Int) + 1), u4, u5, u6, u7, u8, u9, u10, u11, u12, u13, u14, u15], defers := [] } ∧ k ≤ 7 ∧ Hid (bitsN (k + 1) c = eightB x)) (fun a' _ => (intOf (a'.tmps.getD 3 undef)).toNat) rfl ?_ ?_
  · go_wp2
    go_step3
    go_wp2
    go_step3
    exact ⟨rfl, rfl, 6, bit1 x, _, _, _, _, _, _, _, _, _, _, _, _, rfl, by omega, rfl⟩
  · rintro a' w' ⟨rfl, k, c, u4, u5, u6, u7, u8, u9, u10, u11, u12, u13, u14, u15, rfl, hk, hb⟩
    by_cases h0 : k = 0
    · subst h0
      go_wp2
      simp only [Exit.jump]
      go_ret
      exact ⟨by rw [← hb.out]; rfl, rfl⟩
    · obtain ⟨j, rfl⟩ : ∃ j, k = j + 1 := ⟨k - 1, by omega⟩
      go_wp2
      go_step3
      refine ⟨rfl, ⟨rfl, j, bit1 c, _, _, _, _, _, _, _, _, _, _, _, _, rfl, by omega, ?_⟩, ?_⟩
      · exact hid (by rw [← hb.out]; rfl)
      · simp [intOf]; omega

theorem U_byte (c : BitVec 32) (b : UInt8) : bits .xor .u32 (U c) (b.toNat : Int) = U (c ^^^ byteB b) := by
  have h := b.toNat_lt
  have : (b.toNat : Int) = U (byteB b) := by
    unfold U byteB
    rw [BitVec.toNat_ofNat, Nat.mod_eq_of_lt (by omega)]
  rw [this, U_xor]

theorem U_byte_mod (c : BitVec 32) (b : UInt8) : bits .xor .u32 (U c) ((b.toNat : Int) % (4294967296 : Int)) = U (c ^^^ byteB b) := by
  have h := b.toNat_lt
  rw [show (b.toNat : Int) % (4294967296 : Int) = (b.toNat : Int) by omega, U_byte]
theorem U_not (x : BitVec 32) : bits .xor .u32 IntKind.u32.max (U x) = U (~~~x) := by
  have h : IntKind.u32.max = U 4294967295#32 := by decide
  rw [h, U_xor]
  congr 1
attribute [local go_sem] U_not U_byte U_byte_mod

set_option maxHeartbeats 400000 in
theorem more_any (x : BitVec 32) (s : ByteArray) (w : World) (hs : s.size ≤ 9223372036854775807) :
    Calls Try.prog 11 #[.int .u32 (U x), .string s] w fun e w' => e = .returned (.int .u32 (U (moreB x s.data.toList))) ∧ w = w' := by
  go_enter Try.func11, Try.ntmps11
  go_wp2
  go_loop [5, 11] (fun c i => ∃ k : Nat, k ≤ s.size ∧ i = .int .i64 k ∧ c = .int .u32 (U (runB (~~~x) (s.data.toList.take k)))) (fun _ i => s.size - (intOf i).toNat)
  case atStart => exact ⟨0, by omega, rfl, rfl⟩
  case round =>
    obtain ⟨k, hk, rfl, rfl⟩ := hrel
    by_cases hkl : k < s.size
    · have hT : runB (~~~x) (s.data.toList.take (k + 1)) = stepB (runB (~~~x) (s.data.toList.take k)) s[k] := runB_take _ _ _ (by simpa using hkl)
      have HT := hid hT
      clear hT
      obtain ⟨c, hc⟩ : ∃ c, c = runB (~~~x) (s.data.toList.take k) := ⟨_, rfl⟩
      rw [← hc] at HT
      rw [← hc]
      clear hc
      go_wp2_with (go_at_call 18; with_reducible refine (eight_any _ _).mono ?_; rintro e w' ⟨rfl, rfl⟩)
      go_round
      case rel => exact ⟨k + 1, by omega, by go_num, by rw [HT.out]; rfl⟩
      case measure => simp [intOf]; omega
    · obtain rfl : k = s.size := by omega
      have hT := hid (show s.data.toList.take s.size = s.data.toList from List.take_of_length_le (by simp))
      go_wp2
      go_ret
      exact ⟨by rw [hT.out]; rfl, rfl⟩

set_option maxHeartbeats 400000 in
theorem sum_any (s : ByteArray) (w : World) (hs : s.size ≤ 9223372036854775807) :
    Calls Try.prog 9 #[.string s] w fun e w' => e = .returned (.int .u32 (U (sumB s.data.toList))) ∧ w = w' := by
  go_enter Try.func9, Try.ntmps9
  go_wp2_with (go_at_call 11; refine (more_any 0#32 s _ hs).mono ?_; rintro e w' ⟨rfl, rfl⟩)
  go_ret
  exact ⟨rfl, rfl⟩

theorem run_four {P : Program} (src dst e : TypeId) (hs : P.underlying src = some (.slice e)) (he : P.underlying e = some (.int .u8)) (hd : P.underlying dst = some .string) (a b c d : Int) (w : World) :
    (convert src dst (.slice (some ⟨w.heap.size, 0, none⟩) 4 4)).run P (w.alloc (.cells #[.int .u8 a, .int .u8 b, .int .u8 c, .int .u8 d] e)) =
      .ok (.string (strOfNums [a, b, c, d])) (w.alloc (.cells #[.int .u8 a, .int .u8 b, .int .u8 c, .int .u8 d] e)) := by
  refine run_convert_bytes_arg _ src e hs he w.heap.size 0 4 4 [a, b, c, d] rfl (fun i hi => ?_) dst hd
  rw [(Blk.new w e #[.int .u8 a, .int .u8 b, .int .u8 c, .int .u8 d]).cell]
  match i, hi with
  | 0, _ => rfl
  | 1, _ => rfl
  | 2, _ => rfl
  | 3, _ => rfl

def fourS (n : BitVec 32) : ByteArray := ⟨(fourB n).toArray⟩
theorem fourS_size (n : BitVec 32) : (fourS n).size = 4 := rfl
theorem four_str (x : BitVec 32) : strOfNums [U x % 256, U x / 256 % 256, U x / 65536 % 256, U x / 16777216 % 256] = fourS x := by
  have key : ∀ n : Nat, UInt8.ofNat ((n : Int) % 256).toNat = UInt8.ofNat n := by
    intro n
    apply UInt8.toNat_inj.1
    rw [show ((n : Int) % 256).toNat = n % 256 by omega]
    simp
  have k0 : U x % 256 = ((x.toNat : Nat) : Int) % 256 := rfl
  have k1 : U x / 256 % 256 = ((x.toNat / 256 : Nat) : Int) % 256 := by unfold U; omega
  have k2 : U x / 65536 % 256 = ((x.toNat / 65536 : Nat) : Int) % 256 := by unfold U; omega
  have k3 : U x / 16777216 % 256 = ((x.toNat / 16777216 : Nat) : Int) % 256 := by unfold U; omega
  rw [k0, k1, k2, k3]
  simp only [strOfNums, List.map_cons, List.map_nil, key, fourS, fourB]

set_option maxHeartbeats 400000 in
theorem four_any (x : BitVec 32) (w : World) :
    Calls Try.prog 20 #[.int .u32 (U x)] w fun e w' => e = .returned (.string (fourS x)) ∧ Below w.heap.size w w' := by
  have hcv := fun a b c d => run_four (P := Try.prog) 37 9 5 Try.underlying37 Try.underlying5 Try.underlying9 a b c d w
  go_enter Try.func20, Try.ntmps20
  go_wp2
  go_ret
  exact ⟨by rw [← four_str]; rfl, (Below.refl _ _).alloc (Nat.le_refl _) _⟩

set_option maxHeartbeats 400000 in
theorem reffour_any (x : BitVec 32) (w : World) :
    Calls Try.prog 21 #[.int .u32 (U x)] w fun e w' => e = .returned (.string (fourS x)) ∧ Below w.heap.size w w' := by
  have hcv := fun a b c d => run_four (P := Try.prog) 37 9 5 Try.underlying37 Try.underlying5 Try.underlying9 a b c d w
  go_enter Try.func21, Try.ntmps21
  go_wp2
  go_ret
  exact ⟨by rw [← four_str]; rfl, (Below.refl _ _).alloc (Nat.le_refl _) _⟩

theorem bit1_odd (c : BitVec 32) (h : c &&& 1#32 = 1#32) : (c >>> 1) ^^^ 3988292384#32 = bit1 c := by
  unfold bit1
  rw [h]
  congr 1
theorem bit1_even (c : BitVec 32) (h : c &&& 1#32 = 0#32) : c >>> 1 = bit1 c := by
  unfold bit1
  rw [h]
  have : (3988292384#32 &&& -0#32 : BitVec 32) = 0#32 := by decide
  rw [this, BitVec.xor_zero]
theorem bit1_or (c : BitVec 32) : c &&& 1#32 = 1#32 ∨ c &&& 1#32 = 0#32 := by
  have h : (c &&& 1#32).toNat = c.toNat % 2 := by rw [BitVec.toNat_and]; exact Nat.and_one_is_mod _
  rcases Nat.mod_two_eq_zero_or_one c.toNat with h0 | h0
  · right; apply BitVec.eq_of_toNat_eq; rw [h, h0]; rfl
  · left; apply BitVec.eq_of_toNat_eq; rw [h, h0]; rfl
theorem U_xor_poly (x : BitVec 32) : bits .xor .u32 (U x) (3988292384 : Int) = U (x ^^^ 3988292384#32) := U_xor x 3988292384#32
theorem U_xor_max (x : BitVec 32) : bits .xor .u32 (U x) (4294967295 : Int) = U (~~~x) := by
  have h := U_xor x 4294967295#32
  rw [show x ^^^ 4294967295#32 = ~~~x from BitVec.xor_allOnes] at h
  exact h
attribute [local go_sem] U_xor_poly U_xor_max

set_option maxHeartbeats 400000 in
theorem step_any (c : BitVec 32) (b : UInt8) (w : World) :
    Calls Try.prog 19 #[.int .u32 (U c), .int .u8 (b.toNat : Int)] w fun e w' => e = .returned (.int .u32 (U (stepB c b))) ∧ w = w' := by
  go_enter Try.func19, Try.ntmps19
  go_wp2
  go_loop [0, 5] (fun v i => ∃ (k : Nat) (d : BitVec 32), k ≤ 8 ∧ i = .int .i64 k ∧ v = .int .u32 (U d) ∧ Hid (bitsN (8 - k) d = stepB c b)) (fun _ i => 8 - (intOf i).toNat)
  case atStart => exact ⟨0, c ^^^ byteB b, by omega, rfl, rfl, rfl⟩
  case round =>
    obtain ⟨k, d, hk, rfl, rfl, hd⟩ := hrel
    by_cases hk8 : k < 8
    · have hnx : Hid (bitsN (8 - (k + 1)) (bit1 d) = stepB c b) := hid (by
        rw [← hd.out]
        obtain ⟨m, hm⟩ : ∃ m, 8 - k = m + 1 := ⟨7 - k, by omega⟩
        rw [hm, show 8 - (k + 1) = m by omega]
        rfl)
      rcases bit1_or d with h | h
      · have ht : (U (d &&& 1#32) == (1 : Int)) = true := by rw [h]; rfl
        have H := hid h
        clear h
        go_wp2
        go_round
        case rel => exact ⟨k + 1, bit1 d, by omega, by go_num, by rw [← bit1_odd d H.out], hnx⟩
        case measure => simp [intOf]; omega
      · have ht : (U (d &&& 1#32) == (1 : Int)) = false := by rw [h]; rfl
        have H := hid h
        clear h
        go_wp2
        go_round
        case rel => exact ⟨k + 1, bit1 d, by omega, by go_num, by rw [← bit1_even d H.out], hnx⟩
        case measure => simp [intOf]; omega
    · obtain rfl : k = 8 := by omega
      go_wp2
      go_ret
      exact ⟨by rw [← hd.out]; rfl, rfl⟩

set_option maxHeartbeats 400000 in
theorem refmore_any (x : BitVec 32) (s : ByteArray) (w : World) (hs : s.size ≤ 9223372036854775807) :
    Calls Try.prog 12 #[.int .u32 (U x), .string s] w fun e w' => e = .returned (.int .u32 (U (moreB x s.data.toList))) ∧ w = w' := by
  go_enter Try.func12, Try.ntmps12
  go_wp2
  go_loop [5, 6] (fun c i => ∃ k : Nat, k ≤ s.size ∧ i = .int .i64 k ∧ c = .int .u32 (U (runB (~~~x) (s.data.toList.take k)))) (fun _ i => s.size - (intOf i).toNat)
  case atStart => exact ⟨0, by omega, rfl, rfl⟩
  case round =>
    obtain ⟨k, hk, rfl, rfl⟩ := hrel
    by_cases hkl : k < s.size
    · have hT : runB (~~~x) (s.data.toList.take (k + 1)) = stepB (runB (~~~x) (s.data.toList.take k)) s[k] := runB_take _ _ _ (by simpa using hkl)
      have HT := hid hT
      clear hT
      obtain ⟨c, hc⟩ : ∃ c, c = runB (~~~x) (s.data.toList.take k) := ⟨_, rfl⟩
      rw [← hc] at HT
      rw [← hc]
      clear hc
      go_wp2_with (go_at_call 19; with_reducible refine (step_any _ _ _).mono ?_; rintro e w' ⟨rfl, rfl⟩)
      go_round
      case rel => exact ⟨k + 1, by omega, by go_num, by rw [HT.out]⟩
      case measure => simp [intOf]; omega
    · obtain rfl : k = s.size := by omega
      have hT := hid (show s.data.toList.take s.size = s.data.toList from List.take_of_length_le (by simp))
      go_wp2
      go_ret
      exact ⟨by rw [hT.out]; rfl, rfl⟩

set_option maxHeartbeats 400000 in
theorem refsum_any (s : ByteArray) (w : World) (hs : s.size ≤ 9223372036854775807) :
    Calls Try.prog 10 #[.string s] w fun e w' => e = .returned (.int .u32 (U (sumB s.data.toList))) ∧ w = w' := by
  go_enter Try.func10, Try.ntmps10
  go_wp2_with (go_at_call 12; refine (refmore_any 0#32 s _ hs).mono ?_; rintro e w' ⟨rfl, rfl⟩)
  go_ret
  exact ⟨rfl, rfl⟩

def sealS (s : ByteArray) : ByteArray := s ++ fourS (sumB s.data.toList)

def hdS (s : ByteArray) : ByteArray := s.extract 0 (s.size - 4)
def tlS (s : ByteArray) : ByteArray := s.extract (s.size - 4) s.size

set_option maxHeartbeats 400000 in
theorem seal_any (s : ByteArray) (w : World) (hs : s.size ≤ 140737488351232) :
    Calls Try.prog 15 #[.string s] w fun e w' => e = .returned (.string (sealS s)) ∧ Below w.heap.size w w' := by
  have h4 := fourS_size (sumB s.data.toList)
  go_enter Try.func15, Try.ntmps15
  go_wp2_with fail
  refine (sum_any s _ (by omega)).mono ?_
  rintro e w' ⟨rfl, rfl⟩
  go_wp2_with fail
  refine (four_any _ _).mono ?_
  rintro e w1 ⟨rfl, hb⟩
  have HB := hid hb
  clear hb
  go_wp2_with fail
  go_ret
  exact ⟨rfl, HB.out⟩

set_option maxHeartbeats 400000 in
theorem refseal_any (s : ByteArray) (w : World) (hs : s.size ≤ 140737488351232) :
    Calls Try.prog 16 #[.string s] w fun e w' => e = .returned (.string (sealS s)) ∧ Below w.heap.size w w' := by
  have h4 := fourS_size (sumB s.data.toList)
  go_enter Try.func16, Try.ntmps16
  go_wp2_with fail
  refine (refsum_any s _ (by omega)).mono ?_
  rintro e w' ⟨rfl, rfl⟩
  go_wp2_with fail
  refine (reffour_any _ _).mono ?_
  rintro e w1 ⟨rfl, hb⟩
  have HB := hid hb
  clear hb
  go_wp2_with fail
  go_ret
  exact ⟨rfl, HB.out⟩

set_option maxHeartbeats 400000 in
theorem open_short (s : ByteArray) (w : World) (hs : s.size < 4) :
    Calls Try.prog 13 #[.string s] w fun e w' => e = .returned (.tuple #[.string ⟨#[]⟩, .int .i64 2]) ∧ w = w' := by
  go_enter Try.func13, Try.ntmps13
  go_wp2_with fail
  go_ret2
  exact ⟨rfl, rfl⟩

theorem str_ne {s s' : ByteArray} (h : ¬ s = s') : (s.toList == s'.toList) = false := by
  rw [beq_eq_false_iff_ne]
  intro e
  rw [ByteArray.toList_eq, ByteArray.toList_eq] at e
  exact h (ByteArray.ext (Array.toList_inj.1 e))
theorem below_drewN {B : Nat} {a w : World} (h : Below B a w) (n : Nat) : Below B a (w.drewN n) := ⟨h.os, h.tape, h.output, h.size, h.block⟩

set_option maxHeartbeats 400000 in
theorem open_yes_core (s : ByteArray) (n : Nat) (x : BitVec 32) (w : World) (hn : (s.size : Int) - (4 : Int) = (n : Int)) (hn2 : n ≤ s.size) (hs : s.size ≤ 140737488355328)
    (hsum : Hid (∀ W, Calls Try.prog 9 #[.string (s.extract 0 n)] W fun e w' => e = .returned (.int .u32 (U x)) ∧ W = w')) (hcmp : ((fourS x).toList == (s.extract n s.size).toList) = true) :
    Calls Try.prog 13 #[.string s] w fun e w' => e = .returned (.tuple #[.string (s.extract 0 n), .int .i64 0]) ∧ Below w.heap.size w w' := by
  go_enter Try.func13, Try.ntmps13
  go_wp2_with fail
  go_region_with (first | (go_at_call 9; refine (hsum.out _).mono ?_; rintro e w' ⟨rfl, rfl⟩) | (go_at_call 20; refine (four_any _ _).mono ?_; rintro e w1 ⟨rfl, hb⟩; have HB := hid hb; clear hb))
  all_goals go_wp2_with fail
  all_goals go_ret2
  all_goals exact ⟨rfl, (below_drewN (Below.refl _ w) 1).trans HB.out⟩
theorem open_yes (s : ByteArray) (w : World) (h4 : 4 ≤ s.size) (hs : s.size ≤ 140737488355328) (he : fourS (sumB (hdS s).data.toList) = tlS s) :
    Calls Try.prog 13 #[.string s] w fun e w' => e = .returned (.tuple #[.string (hdS s), .int .i64 0]) ∧ Below w.heap.size w w' :=
  open_yes_core s (s.size - 4) (sumB (hdS s).data.toList) w (by omega) (by omega) hs (hid fun W => sum_any _ W (by rw [ByteArray.size_extract]; omega)) (beq_iff_eq.2 (congrArg ByteArray.toList he))

set_option maxHeartbeats 400000 in
theorem open_no_core (s : ByteArray) (n : Nat) (x : BitVec 32) (w : World) (hn : (s.size : Int) - (4 : Int) = (n : Int)) (hn2 : n ≤ s.size) (hs : s.size ≤ 140737488355328)
    (hsum : Hid (∀ W, Calls Try.prog 9 #[.string (s.extract 0 n)] W fun e w' => e = .returned (.int .u32 (U x)) ∧ W = w')) (hcmp : ((fourS x).toList == (s.extract n s.size).toList) = false) :
    Calls Try.prog 13 #[.string s] w fun e w' => e = .returned (.tuple #[.string ⟨#[]⟩, .int .i64 4]) ∧ Below w.heap.size w w' := by
  go_enter Try.func13, Try.ntmps13
  go_wp2_with fail
  go_region_with (first | (go_at_call 9; refine (hsum.out _).mono ?_; rintro e w' ⟨rfl, rfl⟩) | (go_at_call 20; refine (four_any _ _).mono ?_; rintro e w1 ⟨rfl, hb⟩; have HB := hid hb; clear hb))
  all_goals go_wp2_with fail
  all_goals go_ret2
  all_goals exact ⟨rfl, (below_drewN (Below.refl _ w) 1).trans HB.out⟩
theorem open_no (s : ByteArray) (w : World) (h4 : 4 ≤ s.size) (hs : s.size ≤ 140737488355328) (he : ¬ fourS (sumB (hdS s).data.toList) = tlS s) :
    Calls Try.prog 13 #[.string s] w fun e w' => e = .returned (.tuple #[.string ⟨#[]⟩, .int .i64 4]) ∧ Below w.heap.size w w' :=
  open_no_core s (s.size - 4) (sumB (hdS s).data.toList) w (by omega) (by omega) hs (hid fun W => sum_any _ W (by rw [ByteArray.size_extract]; omega)) (str_ne he)

end Go.Proofs.Ytindcpheammaeaa
