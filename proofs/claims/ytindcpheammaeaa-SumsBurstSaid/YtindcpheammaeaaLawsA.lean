/- SumsSums, SumsOpens, SumsBack: the walks of these laws, for every input. -/
import Derived.Test.YtindcpheammaeaaAwake
import Derived.OpenShut
namespace Go.Proofs.Ytindcpheammaeaa
open Go.RowKit
attribute [local go_sem] U_and U_xor U_and_one U_poly_and U_half U_neg U_bit U_not U_byte U_byte_mod U_xor_poly U_xor_max

theorem of_wf {n : Int} (h : (Lit.int .u32 n).wf = true) : ∃ x : BitVec 32, n = U x := by
  have hb : 0 ≤ n ∧ n < 4294967296 := by
    simp [Lit.wf, IntKind.min, IntKind.max, IntKind.signed, IntKind.bits] at h
    omega
  refine ⟨BitVec.ofNat 32 n.toNat, ?_⟩
  unfold U
  rw [BitVec.toNat_ofNat, Nat.mod_eq_of_lt (by omega)]
  omega

set_option maxHeartbeats 400000 in
theorem sums_walk (n : Int) (hn : (Lit.int .u32 n).wf = true) (s : ByteArray) (hs : s.size ≤ 140737488351232) (w : World) :
    Calls Try.prog 3 #[.int .u32 n, .string s] w fun e w' => e = .returned (.bool true) ∧ Below w.heap.size w w' := by
  obtain ⟨x, rfl⟩ := of_wf hn
  clear hn
  by_cases hl : 131072 < s.size
  · go_enter Try.func3, Try.ntmps3
    go_wp2_with fail
    refine (awake_any _).mono ?_
    rintro e w1 ⟨rfl, hb⟩
    have B1 := hid hb
    clear hb
    go_wp2_with fail
    go_ret
    exact ⟨rfl, B1.out⟩
  · go_enter Try.func3, Try.ntmps3
    go_wp2_with fail
    refine (sum_any s _ (by omega)).mono ?_
    rintro e w1 ⟨rfl, rfl⟩
    go_wp2_with fail
    refine (refsum_any s _ (by omega)).mono ?_
    rintro e w1 ⟨rfl, rfl⟩
    go_wp2_with fail
    refine (more_any x s _ (by omega)).mono ?_
    rintro e w1 ⟨rfl, rfl⟩
    go_wp2_with fail
    refine (refmore_any x s _ (by omega)).mono ?_
    rintro e w1 ⟨rfl, rfl⟩
    go_wp2_with fail
    refine (awake_any _).mono ?_
    rintro e w1 ⟨rfl, hb⟩
    have B1 := hid hb
    clear hb
    go_wp2_with fail
    go_ret
    exact ⟨rfl, B1.out⟩

set_option maxHeartbeats 400000 in
theorem refopen_short (s : ByteArray) (w : World) (hs : s.size < 4) :
    Calls Try.prog 14 #[.string s] w fun e w' => e = .returned (.tuple #[.string ⟨#[]⟩, .int .i64 2]) ∧ w = w' := by
  go_enter Try.func14, Try.ntmps14
  go_wp2_with fail
  go_ret2
  exact ⟨rfl, rfl⟩

set_option maxHeartbeats 400000 in
theorem refopen_core (s : ByteArray) (n : Nat) (t : ByteArray) (w : World) (hn : (s.size : Int) - (4 : Int) = (n : Int)) (hn2 : n ≤ s.size) (hs : s.size ≤ 140737488351232)
    (hseal : Hid (∀ W, Calls Try.prog 16 #[.string (s.extract 0 n)] W fun e w' => e = .returned (.string t) ∧ Below W.heap.size W w')) (r : Bool) (hcmp : (t.toList == s.toList) = r) :
    Calls Try.prog 14 #[.string s] w fun e w' => e = .returned (.tuple #[if r then .string (s.extract 0 n) else .string ⟨#[]⟩, if r then .int .i64 0 else .int .i64 4]) ∧ Below w.heap.size w w' := by
  cases r
  · go_enter Try.func14, Try.ntmps14
    go_wp2_with fail
    refine (hseal.out _).mono ?_
    rintro e w1 ⟨rfl, hb⟩
    have B1 := hid hb
    clear hb
    go_wp2_with fail
    go_ret2
    exact ⟨rfl, B1.out⟩
  · go_enter Try.func14, Try.ntmps14
    go_wp2_with fail
    refine (hseal.out _).mono ?_
    rintro e w1 ⟨rfl, hb⟩
    have B1 := hid hb
    clear hb
    go_wp2_with fail
    go_ret2
    exact ⟨rfl, B1.out⟩
theorem refopen_yes (s : ByteArray) (w : World) (h4 : 4 ≤ s.size) (hs : s.size ≤ 140737488351232) (he : fourS (sumB (hdS s).data.toList) = tlS s) :
    Calls Try.prog 14 #[.string s] w fun e w' => e = .returned (.tuple #[.string (hdS s), .int .i64 0]) ∧ Below w.heap.size w w' :=
  refopen_core s (s.size - 4) (sealS (hdS s)) w (by omega) (by omega) hs (hid fun W => refseal_any _ W (by rw [ByteArray.size_extract]; omega)) true (beq_iff_eq.2 (congrArg ByteArray.toList ((seal_hd s).2 he)))
theorem refopen_no (s : ByteArray) (w : World) (h4 : 4 ≤ s.size) (hs : s.size ≤ 140737488351232) (he : ¬ fourS (sumB (hdS s).data.toList) = tlS s) :
    Calls Try.prog 14 #[.string s] w fun e w' => e = .returned (.tuple #[.string ⟨#[]⟩, .int .i64 4]) ∧ Below w.heap.size w w' :=
  refopen_core s (s.size - 4) (sealS (hdS s)) w (by omega) (by omega) hs (hid fun W => refseal_any _ W (by rw [ByteArray.size_extract]; omega)) false (str_ne fun e => he ((seal_hd s).1 e))

/-- What Open tells, and the reference tells the same. -/
theorem opens_both (s : ByteArray) (hs : s.size ≤ 140737488351232) : ∃ (t : ByteArray) (n : Int), (∀ W, Calls Try.prog 13 #[.string s] W fun e w' => e = .returned (.tuple #[.string t, .int .i64 n]) ∧ Below W.heap.size W w') ∧
    (∀ W, Calls Try.prog 14 #[.string s] W fun e w' => e = .returned (.tuple #[.string t, .int .i64 n]) ∧ Below W.heap.size W w') ∧ (n = 0 ∧ sealS t = s ∨ (n != 0) = true) ∧ t.size ≤ s.size := by
  by_cases h4 : s.size < 4
  · exact ⟨⟨#[]⟩, 2, fun W => (open_short s W h4).mono fun e w' h => ⟨h.1, by rw [← h.2]; exact Below.refl _ _⟩, fun W => (refopen_short s W h4).mono fun e w' h => ⟨h.1, by rw [← h.2]; exact Below.refl _ _⟩, .inr rfl, Nat.zero_le _⟩
  · by_cases he : fourS (sumB (hdS s).data.toList) = tlS s
    · exact ⟨hdS s, 0, fun W => open_yes s W (by omega) (by omega) he, fun W => refopen_yes s W (by omega) hs he, .inl ⟨rfl, (seal_hd s).2 he⟩, by unfold hdS; rw [ByteArray.size_extract]; omega⟩
    · exact ⟨⟨#[]⟩, 4, fun W => open_no s W (by omega) (by omega) he, fun W => refopen_no s W (by omega) hs he, .inr rfl, Nat.zero_le _⟩

set_option maxHeartbeats 400000 in
theorem opens_walk (s : ByteArray) (hs : s.size ≤ 140737488351232) (w : World) :
    Calls Try.prog 4 #[.string s] w fun e w' => e = .returned (.bool true) ∧ Below w.heap.size w w' := by
  by_cases hl : 131072 < s.size
  · go_enter Try.func4, Try.ntmps4
    go_wp2_with fail
    refine (awake_any _).mono ?_
    rintro e w1 ⟨rfl, hb⟩
    have B1 := hid hb
    clear hb
    go_wp2_with fail
    go_ret
    exact ⟨rfl, B1.out⟩
  · obtain ⟨t, n, h1, h2, _, _⟩ := opens_both s hs
    have H1 := hid h1
    have H2 := hid h2
    clear h1 h2
    go_enter Try.func4, Try.ntmps4
    go_wp2_with fail
    refine (H1.out _).mono ?_
    rintro e w1 ⟨rfl, hb⟩
    have B1 := hid hb
    clear hb
    go_wp2_with fail
    refine (H2.out _).mono ?_
    rintro e w2 ⟨rfl, hb⟩
    have B2 := hid (B1.out.trans (hb.mono B1.out.size))
    clear hb
    go_wp2_with fail
    refine (seal_any s _ hs).mono ?_
    rintro e w3 ⟨rfl, hb⟩
    have B3 := hid (B2.out.trans (hb.mono B2.out.size))
    clear hb
    go_wp2_with fail
    refine (refseal_any s _ hs).mono ?_
    rintro e w4 ⟨rfl, hb⟩
    have B4 := hid (B3.out.trans (hb.mono B3.out.size))
    clear hb
    go_wp2_with fail
    refine (awake_any _).mono ?_
    rintro e w5 ⟨rfl, hb⟩
    have B5 := hid (B4.out.trans (hb.mono B4.out.size))
    clear hb
    go_wp2_with fail
    go_ret
    exact ⟨rfl, B5.out⟩

set_option maxHeartbeats 400000 in
theorem back_walk (s : ByteArray) (hs : s.size ≤ 140737488351232) (w : World) :
    Calls Try.prog 6 #[.string s] w fun e w' => e = .returned (.bool true) ∧ Below w.heap.size w w' := by
  by_cases hl : 131072 < s.size
  · go_enter Try.func6, Try.ntmps6
    go_wp2_with fail
    refine (awake_any _).mono ?_
    rintro e w1 ⟨rfl, hb⟩
    have B1 := hid hb
    clear hb
    go_wp2_with fail
    go_ret
    exact ⟨rfl, B1.out⟩
  · obtain ⟨t, n, h1, _, h3, h4⟩ := opens_both s hs
    have H1 := hid h1
    have H2 := hid (fun W => open_seal s W hs)
    clear h1
    rcases h3 with ⟨rfl, h5⟩ | h5
    · have H5 := hid h5
      clear h5
      go_enter Try.func6, Try.ntmps6
      go_wp2_with fail
      refine (seal_any s _ hs).mono ?_
      rintro e w1 ⟨rfl, hb⟩
      have B1 := hid hb
      clear hb
      go_wp2_with fail
      refine (H2.out _).mono ?_
      rintro e w2 ⟨rfl, hb⟩
      have B2 := hid (B1.out.trans (hb.mono B1.out.size))
      clear hb
      go_wp2_with fail
      refine (H1.out _).mono ?_
      rintro e w3 ⟨rfl, hb⟩
      have B3 := hid (B2.out.trans (hb.mono B2.out.size))
      clear hb
      go_wp2_with fail
      refine (seal_any t _ (by omega)).mono ?_
      rintro e w4 ⟨rfl, hb⟩
      rw [H5.out]
      have B4 := hid (B3.out.trans (hb.mono B3.out.size))
      clear hb
      go_wp2_with fail
      refine (awake_any _).mono ?_
      rintro e w5 ⟨rfl, hb⟩
      have B5 := hid (B4.out.trans (hb.mono B4.out.size))
      clear hb
      go_wp2_with fail
      go_ret
      exact ⟨rfl, B5.out⟩
    · go_enter Try.func6, Try.ntmps6
      go_wp2_with fail
      refine (seal_any s _ hs).mono ?_
      rintro e w1 ⟨rfl, hb⟩
      have B1 := hid hb
      clear hb
      go_wp2_with fail
      refine (H2.out _).mono ?_
      rintro e w2 ⟨rfl, hb⟩
      have B2 := hid (B1.out.trans (hb.mono B1.out.size))
      clear hb
      go_wp2_with fail
      refine (H1.out _).mono ?_
      rintro e w3 ⟨rfl, hb⟩
      have B3 := hid (B2.out.trans (hb.mono B2.out.size))
      clear hb
      go_wp2_with fail
      refine (awake_any _).mono ?_
      rintro e w5 ⟨rfl, hb⟩
      have B5 := hid (B3.out.trans (hb.mono B3.out.size))
      clear hb
      go_wp2_with fail
      go_ret
      exact ⟨rfl, B5.out⟩

end Go.Proofs.Ytindcpheammaeaa
