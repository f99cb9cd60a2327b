/- SumsParts: the walk of this law, for every input. -/
import Derived.Test.YtindcpheammaeaaLawsA
import Derived.Test.YtindcpheammaeaaLaw
namespace Go.Proofs.Ytindcpheammaeaa
open Go.RowKit
attribute [local go_sem] U_and U_xor U_and_one U_poly_and U_half U_neg U_bit U_not U_byte U_byte_mod U_xor_poly U_xor_max

set_option maxHeartbeats 400000 in
theorem parts_walk (s : ByteArray) (hs : s.size ≤ 140737488351232) (t : ByteArray) (ht : t.size ≤ 140737488351232) (w : World) :
    Calls Try.prog 5 #[.string s, .string t] w fun e w' => e = .returned (.bool true) ∧ Below w.heap.size w w' := by
  by_cases hl : 65536 < s.size
  · go_enter Try.func5, Try.ntmps5
    go_wp2_with fail
    refine (awake_any _).mono ?_
    rintro e w1 ⟨rfl, hb⟩
    have B1 := hid hb
    clear hb
    go_wp2_with fail
    go_ret
    exact ⟨rfl, B1.out⟩
  · by_cases hl2 : 65536 < t.size
    · go_enter Try.func5, Try.ntmps5
      go_wp2_with fail
      refine (awake_any _).mono ?_
      rintro e w1 ⟨rfl, hb⟩
      have B1 := hid hb
      clear hb
      go_wp2_with fail
      go_ret
      exact ⟨rfl, B1.out⟩
    · have hj := hid (join_sum s.data.toList t.data.toList)
      have hm := hid (more_sum s.data.toList t.data.toList)
      have hlen : t.data.toList.length = t.size := by simp
      rw [hlen] at hj
      have hd : (s ++ t).data.toList = s.data.toList ++ t.data.toList := by simp
      have hd' := hid hd
      clear hlen hd
      have hst : (s ++ t).size = s.size + t.size := ByteArray.size_append
      go_enter Try.func5, Try.ntmps5
      go_wp2_with fail
      refine (sum_any s _ (by omega)).mono ?_
      rintro e w1 ⟨rfl, rfl⟩
      go_wp2_with fail
      refine (sum_any t _ (by omega)).mono ?_
      rintro e w1 ⟨rfl, rfl⟩
      go_wp2_with fail
      refine (join_any (n := t.size) (by omega)).mono ?_
      rintro e w1 ⟨rfl, hb⟩
      rw [hj.out]
      have B1 := hid hb
      clear hb
      go_wp2_with fail
      refine (sum_any (s ++ t) _ (by omega)).mono ?_
      rintro e w2 ⟨rfl, rfl⟩
      rw [hd'.out]
      go_wp2_with fail
      refine (sum_any s _ (by omega)).mono ?_
      rintro e w2 ⟨rfl, rfl⟩
      go_wp2_with fail
      refine (more_any _ t _ (by omega)).mono ?_
      rintro e w2 ⟨rfl, rfl⟩
      rw [hm.out]
      go_wp2_with fail
      refine (awake_any _).mono ?_
      rintro e w2 ⟨rfl, hb⟩
      have B2 := hid (B1.out.trans (hb.mono B1.out.size))
      clear hb
      go_wp2_with fail
      go_ret
      exact ⟨rfl, B2.out⟩

end Go.Proofs.Ytindcpheammaeaa
