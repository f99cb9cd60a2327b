/- A sealed text and its parts; the example of chapter 2 (awake) answers true. -/
import Derived.Test.YtindcpheammaeaaJoin
namespace Go.Proofs.Ytindcpheammaeaa
open Go.RowKit
attribute [local go_sem] U_and U_xor U_and_one U_poly_and U_half U_neg U_bit U_not U_byte U_byte_mod U_xor_poly U_xor_max

theorem sealS_size (s : ByteArray) : (sealS s).size = s.size + 4 := by unfold sealS; rw [ByteArray.size_append, fourS_size]
theorem hdS_seal (s : ByteArray) : hdS (sealS s) = s := by
  unfold hdS
  rw [sealS_size]
  unfold sealS
  rw [Nat.add_sub_cancel]
  apply ByteArray.ext
  rw [ByteArray.data_extract, ByteArray.data_append]
  apply Array.toList_inj.1
  simp
  exact List.take_of_length_le (by simp)
theorem tlS_seal (s : ByteArray) : tlS (sealS s) = fourS (sumB s.data.toList) := by
  unfold tlS
  rw [sealS_size]
  unfold sealS
  rw [Nat.add_sub_cancel]
  apply ByteArray.ext
  rw [ByteArray.data_extract, ByteArray.data_append]
  apply Array.toList_inj.1
  simp [fourS]
  rfl
theorem hd_tl (s : ByteArray) : s = hdS s ++ tlS s := by
  unfold hdS tlS
  apply ByteArray.ext
  rw [ByteArray.data_append, ByteArray.data_extract, ByteArray.data_extract]
  simp
  rw [show s.size = s.data.size from rfl, Array.extract_size]
/-- A text is its head sealed, just when its tail is the head's sum. -/
theorem seal_hd (s : ByteArray) : sealS (hdS s) = s ↔ fourS (sumB (hdS s).data.toList) = tlS s := by
  constructor
  · intro h
    rw [← tlS_seal, h]
  · intro h
    unfold sealS
    rw [h]
    exact (hd_tl s).symm
theorem open_seal (s : ByteArray) (w : World) (hs : s.size ≤ 140737488351232) :
    Calls Try.prog 13 #[.string (sealS s)] w fun e w' => e = .returned (.tuple #[.string s, .int .i64 0]) ∧ Below w.heap.size w w' := by
  have h := open_yes (sealS s) w (by rw [sealS_size]; omega) (by rw [sealS_size]; omega) (by rw [hdS_seal, tlS_seal])
  rw [hdS_seal] at h
  exact h

theorem sum_of (l : List UInt8) (x : BitVec 32) (hx : sumB l = x) (hl : l.length ≤ 1000) (w : World) : Calls Try.prog 9 #[.string ⟨l.toArray⟩] w fun e w' => e = .returned (.int .u32 (U x)) ∧ w = w' := by
  subst hx
  exact sum_any ⟨l.toArray⟩ w (by simp [ByteArray.size]; omega)

set_option maxHeartbeats 800000 in
theorem awake_any (w : World) : Calls Try.prog 8 #[] w fun e w' => e = .returned (.bool true) ∧ Below w.heap.size w w' := by
  have hA := hid (fun W => seal_any ⟨#[97]⟩ W (by decide))
  have hB := hid (fun W => open_seal ⟨#[97]⟩ W (by decide))
  have hC := hid (fun W => open_short ⟨#[97, 98, 99]⟩ W (by decide))
  have hD := hid (fun W => open_no ⟨#[97, 98, 99, 100]⟩ W (by decide) (by decide) (by decide +kernel))
  have h5 := hid (fun W => sum_of [49, 50, 51, 52, 53] _ rfl (by decide) W)
  have h4 := hid (fun W => sum_of [54, 55, 56, 57] _ rfl (by decide) W)
  have h9 := hid (fun W => sum_of [49, 50, 51, 52, 53, 54, 55, 56, 57] 3421780262#32 (by decide +kernel) (by decide) W)
  have hj := hid (show joinB (sumB [49, 50, 51, 52, 53]) (sumB [54, 55, 56, 57]) 4 = 3421780262#32 by decide +kernel)
  have hJ := hid (fun W => join_any (a := sumB [49, 50, 51, 52, 53]) (b := sumB [54, 55, 56, 57]) (n := 4) (w := W) (by decide))
  have hu : (U 3421780262#32 == (3421780262 : Int)) = true := rfl
  go_enter Try.func8, Try.ntmps8
  go_wp2_with fail
  refine (hA.out _).mono ?_
  rintro e w1 ⟨rfl, hb⟩
  have B1 := hid hb
  clear hb
  go_wp2_with fail
  refine (hB.out _).mono ?_
  rintro e w2 ⟨rfl, hb⟩
  have B2 := hid (B1.out.trans (hb.mono B1.out.size))
  clear hb
  go_wp2_with fail
  refine (hC.out _).mono ?_
  rintro e w3 ⟨rfl, rfl⟩
  go_wp2_with fail
  refine (hD.out _).mono ?_
  rintro e w3 ⟨rfl, hb⟩
  have B3 := hid (B2.out.trans (hb.mono B2.out.size))
  clear hb
  go_wp2_with fail
  refine (h5.out _).mono ?_
  rintro e w4 ⟨rfl, rfl⟩
  go_wp2_with fail
  refine (h4.out _).mono ?_
  rintro e w4 ⟨rfl, rfl⟩
  go_wp2_with fail
  refine (hJ.out _).mono ?_
  rintro e w4 ⟨rfl, hb⟩
  rw [hj.out]
  have B4 := hid (B3.out.trans (hb.mono B3.out.size))
  clear hb
  go_wp2_with fail
  refine (h9.out _).mono ?_
  rintro e w5 ⟨rfl, rfl⟩
  go_wp2_with fail
  go_ret
  exact ⟨rfl, B4.out⟩

end Go.Proofs.Ytindcpheammaeaa
