/- The walk of sums.More, for the evaluator. -/
import Derived.WalkMore
import Derived.ScopeJumps
import Derived.BigQuiet
import Derived.Deep.QuietTactic
import Derived.Laws.BitsAllLaws
import Derived.Laws.BytesArg
import Derived.Deep.RegionWith
import Derived.Deep.RegionHeld3
import Derived.WalkKit
import Derived.Test.YtopbojifllnckaaGreatDoorRows
namespace Go.Proofs.YtopbojifllnckaaGreatDoor
open Go.RowKit
theorem hid {p : Prop} (h : p) : Hid p := h
/-- One bit: shifted right, the polynomial put in where a one went out. -/
def bit1 (c : BitVec 32) : BitVec 32 := (c >>> 1) ^^^ (3988292384#32 &&& -(c &&& 1#32))
def bitsN : Nat → BitVec 32 → BitVec 32
  | 0, c => c
  | n + 1, c => bitsN n (bit1 c)
def eightB (c : BitVec 32) : BitVec 32 := bitsN 8 c
def byteB (b : UInt8) : BitVec 32 := BitVec.ofNat 32 b.toNat
def stepB (c : BitVec 32) (b : UInt8) : BitVec 32 := eightB (c ^^^ byteB b)
/-- The register behind a text. -/
def runB (c : BitVec 32) (l : List UInt8) : BitVec 32 := l.foldl stepB c
def moreB (s : BitVec 32) (l : List UInt8) : BitVec 32 := ~~~ (runB (~~~ s) l)
def sumB (l : List UInt8) : BitVec 32 := moreB 0#32 l
def fourB (n : BitVec 32) : List UInt8 := [UInt8.ofNat n.toNat, UInt8.ofNat (n.toNat / 256), UInt8.ofNat (n.toNat / 65536), UInt8.ofNat (n.toNat / 16777216)]

theorem runB_append (c : BitVec 32) (l m : List UInt8) : runB c (l ++ m) = runB (runB c l) m := by unfold runB; rw [List.foldl_append]
theorem runB_take (c : BitVec 32) (l : List UInt8) (k : Nat) (h : k < l.length) : runB c (l.take (k + 1)) = stepB (runB c (l.take k)) l[k] := by
  rw [List.take_succ_eq_append_getElem h, runB_append]; rfl

/-- A register of 32 bits as Go's number. -/
def U (x : BitVec 32) : Int := (x.toNat : Int)
theorem U_and (x y : BitVec 32) : bits .and .u32 (U x) (U y) = U (x &&& y) := by
  unfold U; rw [u32_and_nat _ _ x.isLt y.isLt, BitVec.toNat_and]
theorem U_xor (x y : BitVec 32) : bits .xor .u32 (U x) (U y) = U (x ^^^ y) := by
  unfold U; rw [u32_xor_nat _ _ x.isLt y.isLt, BitVec.toNat_xor]
theorem U_and_one (x : BitVec 32) : bits .and .u32 (U x) (1 : Int) = U (x &&& 1#32) := U_and x 1#32
theorem U_poly_and (x : BitVec 32) : bits .and .u32 3988292384 (U x) = U (3988292384#32 &&& x) := U_and 3988292384#32 x
theorem U_half (x : BitVec 32) : U x / (2 : Int) = U (x >>> 1) := by
  unfold U; rw [BitVec.toNat_ushiftRight, Nat.shiftRight_eq_div_pow]; omega
theorem U_neg (x : BitVec 32) : -U x % (4294967296 : Int) = U (-x) := by
  unfold U; rw [BitVec.toNat_neg]; have := x.isLt; omega
theorem U_bit (c : BitVec 32) : U (c >>> 1 ^^^ 3988292384#32 &&& -(c &&& 1#32)) = U (bit1 c) := rfl
attribute [local go_sem] U_and U_xor U_and_one U_poly_and U_half U_neg U_bit

set_option maxHeartbeats 400000 in
theorem eight_any (x : BitVec 32) (w : World) :
    Calls Tryz.prog 349 #[.int .u32 (U x)] w fun e w' => e = .returned (.int .u32 (U (eightB x))) ∧ w = w' := by
  go_enter Tryz.func349, Tryz.ntmps349
  go_wp2
  refine wp_scope_jumps 0 (fun a' w' => w' = w ∧ ∃ (k : Nat) (c : BitVec 32) (u4 u5 u6 u7 u8 u9 u10 u11 u12 u13 u14 u15 : Value), a' = { tmps := #[.int .u32 (U c), undef, .int .u32 0, .int .i64 ((k : Int) + 1), u4, u5, u6, u7, u8, u9, u10, u11, u12, u13, u14, u15], defers := [] } ∧ k ≤ 7 ∧ Hid (bitsN (k + 1) c = eightB x)) (fun a' _ => (intOf (a'.tmps.getD 3 undef)).toNat) rfl ?_ ?_
  · go_wp2
    go_step3
    go_wp2
    go_step3
    exact ⟨rfl, rfl, 6, bit1 x, _, _, _, _, _, _, _, _, _, _, _, _, rfl, by omega, rfl⟩
  · rintro a' w' ⟨rfl, k, c, u4, u5, u6, u7, u8, u9, u10, u11, u12, u13, u14, u15, rfl, hk, hb⟩
    by_cases h0 : k = 0
    · subst h0
      go_wp2
      simp only [Exit.jump]
      go_ret
      exact ⟨by rw [← hb.out]; rfl, rfl⟩
    · obtain ⟨j, rfl⟩ : ∃ j, k = j + 1 := ⟨k - 1, by omega⟩
      go_wp2
      go_step3
      refine ⟨rfl, ⟨rfl, j, bit1 c, _, _, _, _, _, _, _, _, _, _, _, _, rfl, by omega, ?_⟩, ?_⟩
      · exact hid (by rw [← hb.out]; rfl)
      · simp [intOf]; omega

theorem U_byte (c : BitVec 32) (b : UInt8) : bits .xor .u32 (U c) (b.toNat : Int) = U (c ^^^ byteB b) := by
  have h := b.toNat_lt
  have : (b.toNat : Int) = U (byteB b) := by
    unfold U byteB
    rw [BitVec.toNat_ofNat, Nat.mod_eq_of_lt (by omega)]
  rw [this, U_xor]

theorem U_byte_mod (c : BitVec 32) (b : UInt8) : bits .xor .u32 (U c) ((b.toNat : Int) % (4294967296 : Int)) = U (c ^^^ byteB b) := by
  have h := b.toNat_lt
  rw [show (b.toNat : Int) % (4294967296 : Int) = (b.toNat : Int) by omega, U_byte]
theorem U_not (x : BitVec 32) : bits .xor .u32 IntKind.u32.max (U x) = U (~~~x) := by
  have h : IntKind.u32.max = U 4294967295#32 := by decide
  rw [h, U_xor]
  congr 1
attribute [local go_sem] U_not U_byte U_byte_mod

set_option maxHeartbeats 400000 in
theorem more_any (x : BitVec 32) (s : ByteArray) (w : World) (hs : s.size ≤ 9223372036854775807) :
    Calls Tryz.prog 324 #[.int .u32 (U x), .string s] w fun e w' => e = .returned (.int .u32 (U (moreB x s.data.toList))) ∧ w = w' := by
  go_enter Tryz.func324, Tryz.ntmps324
  go_wp2
  go_loop [5, 11] (fun c i => ∃ k : Nat, k ≤ s.size ∧ i = .int .i64 k ∧ c = .int .u32 (U (runB (~~~x) (s.data.toList.take k)))) (fun _ i => s.size - (intOf i).toNat)
  case atStart => exact ⟨0, by omega, rfl, rfl⟩
  case round =>
    obtain ⟨k, hk, rfl, rfl⟩ := hrel
    by_cases hkl : k < s.size
    · have hT : runB (~~~x) (s.data.toList.take (k + 1)) = stepB (runB (~~~x) (s.data.toList.take k)) s[k] := runB_take _ _ _ (by simpa using hkl)
      have HT := hid hT
      clear hT
      obtain ⟨c, hc⟩ : ∃ c, c = runB (~~~x) (s.data.toList.take k) := ⟨_, rfl⟩
      rw [← hc] at HT
      rw [← hc]
      clear hc
      go_wp2_with (go_at_call 349; with_reducible refine (eight_any _ _).mono ?_; rintro e w' ⟨rfl, rfl⟩)
      go_round
      case rel => exact ⟨k + 1, by omega, by go_num, by rw [HT.out]; rfl⟩
      case measure => simp [intOf]; omega
    · obtain rfl : k = s.size := by omega
      have hT := hid (show s.data.toList.take s.size = s.data.toList from List.take_of_length_le (by simp))
      go_wp2
      go_ret
      exact ⟨by rw [hT.out]; rfl, rfl⟩

end Go.Proofs.YtopbojifllnckaaGreatDoor
