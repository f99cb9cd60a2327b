/- RingNone and RingRefuses: the walks of the two laws, for every input. -/
import Derived.Test.YtjjldcnipgjfpaaAwake
namespace Go.Proofs.Ytjjldcnipgjfpaa
open Go.RowKit
attribute [local go_sem high] run_mxI run_mnI

theorem below_drewN {B : Nat} {a w : World} (h : Below B a w) (n : Nat) : Below B a (w.drewN n) := ⟨h.os, h.tape, h.output, h.size, h.block⟩
theorem mn_zero (x : Int) : mnI (mxI x 0) 0 = 0 := by
  unfold mnI mxI
  split <;> split <;> omega
theorem most_nat (n : Int) : ∃ N : Nat, mnI (mxI n 1) 64 = N ∧ 1 ≤ N ∧ N ≤ 64 := by
  refine ⟨(mnI (mxI n 1) 64).toNat, ?_⟩
  unfold mnI mxI
  split <;> split <;> omega

set_option maxHeartbeats 800000 in
theorem none_walk (k n : Int) (s : ByteArray) (w : World) :
    Calls Try.prog 6 #[.agg #[.int .i64 k, .int .i64 n, .string s]] w fun e w' => e = .returned (.bool true) ∧ Below w.heap.size w w' := by
  go_enter Try.func6, Try.ntmps6
  go_wp2_with fail
  refine take_nil.mono ?_
  rintro e w1 ⟨rfl, rfl⟩
  go_wp2_with fail
  refine peek_nil.mono ?_
  rintro e w1 ⟨rfl, rfl⟩
  go_wp2_with fail
  refine put_nil.mono ?_
  rintro e w1 ⟨rfl, j, rfl⟩
  go_wp2_with fail
  refine len_nil.mono ?_
  rintro e w1 ⟨rfl, rfl⟩
  go_wp2_with fail
  refine room_nil.mono ?_
  rintro e w1 ⟨rfl, rfl⟩
  go_wp2_with fail
  refine (drop_nil (mn_zero _)).mono ?_
  rintro e w1 ⟨rfl, rfl⟩
  go_wp2_with fail
  refine all_nil.mono ?_
  rintro e w1 ⟨rfl, rfl⟩
  go_wp2_with fail
  refine (awake_any _).mono ?_
  rintro e w1 ⟨rfl, hb⟩
  have B1 := hid hb
  clear hb
  go_wp2_with fail
  go_ret
  exact ⟨rfl, (below_drewN ((Below.refl _ _).alloc (Nat.le_refl _) _) j).trans (B1.out.mono (by simp))⟩

set_option maxHeartbeats 800000 in
theorem refuses_walk (n : Int) (s : ByteArray) (w : World) :
    Calls Try.prog 3 #[.int .i64 n, .string s] w fun e w' => e = .returned (.bool true) ∧ Below w.heap.size w w' := by
  by_cases hs : 1000 < s.size
  · go_enter Try.func3, Try.ntmps3
    go_wp2_with fail
    refine (awake_any _).mono ?_
    rintro e w1 ⟨rfl, hb⟩
    have B1 := hid hb
    clear hb
    go_wp2_with fail
    go_ret
    exact ⟨rfl, B1.out⟩
  · obtain ⟨N, hN, hN1, hN2⟩ := most_nat n
    have HN := hid hN
    go_enter Try.func3, Try.ntmps3
    go_wp2_with fail
    refine (new_at HN.out).mono ?_
    rintro e w1 ⟨br, bl, rfl, hbr, hbl, hr, hb⟩
    have R1 := hid hr
    have B1 := hid hb
    have HR := hid hbr
    have HL := hid hbl
    clear hr hb hbr hbl
    go_wp2_with fail
    clear hN
    go_loopw [7] (fun i wr => ∃ k : Nat, k ≤ N ∧ i = .int .i64 k ∧ RingAt wr br bl N (List.replicate k ⟨#[97]⟩) ∧ Below w.heap.size w wr) (fun i _ => N - (intOf i).toNat)
    case atStart => exact ⟨0, by omega, rfl, R1.out, B1.out⟩
    case round =>
      obtain ⟨k, hk, rfl, hr, hb⟩ := hrel
      have R2 := hid hr
      have B2 := hid hb
      clear hr hb
      by_cases hkN : k < N
      · go_wp2_with fail
        refine (put_at_yes R2.out (by simpa using hkN) (by decide)).mono ?_
        rintro e w3 ⟨rfl, hr, ho⟩
        have R3 := hid hr
        have B3 := hid (below_only B2.out HR.out HL.out ho)
        clear hr ho
        go_wp2_with fail
        go_roundw
        case rel => exact ⟨k + 1, by omega, by go_num, by rw [List.replicate_succ']; exact R3.out, B3.out⟩
        case measure => simp [intOf]; omega
      · obtain rfl : k = N := by omega
        go_wp2_with fail
        refine (put_at_no R2.out (.inl (by simp))).mono ?_
        rintro e w3 ⟨rfl, hr, ho⟩
        have R3 := hid hr
        have B3 := hid (below_only B2.out HR.out HL.out ho)
        clear hr ho
        go_wp2_with fail
        refine (len_at R3.out).mono ?_
        rintro e w4 ⟨rfl, rfl⟩
        go_wp2_with fail
        refine (room_at R3.out).mono ?_
        rintro e w4 ⟨rfl, j, rfl⟩
        go_wp2_with fail
        obtain ⟨M, rfl⟩ : ∃ M, k = M + 1 := ⟨k - 1, by omega⟩
        have R4 : Hid (RingAt (w3.drewN j) br bl (M + 1) (⟨#[97]⟩ :: List.replicate M ⟨#[97]⟩)) := hid (by rw [← List.replicate_succ]; exact R3.out.drewN j)
        refine (take_yes R4).mono ?_
        rintro e w5 ⟨rfl, hr, ho⟩
        have R5 := hid hr
        have B5 := hid (below_only (below_drewN B3.out j) HR.out HL.out ho)
        clear hr ho
        go_wp2_with fail
        refine (put_at_yes R5.out (by simp) (by omega)).mono ?_
        rintro e w6 ⟨rfl, hr, ho⟩
        have R6 := hid hr
        have B6 := hid (below_only B5.out HR.out HL.out ho)
        clear hr ho
        go_wp2_with fail
        refine (put_at_no R6.out (.inl (by simp))).mono ?_
        rintro e w7 ⟨rfl, hr, ho⟩
        have B7 := hid (below_only B6.out HR.out HL.out ho)
        clear hr ho
        go_wp2_with fail
        refine (awake_any _).mono ?_
        rintro e w8 ⟨rfl, hb⟩
        have B8 := hid hb
        clear hb
        go_wp2_with fail
        go_ret
        exact ⟨rfl, B7.out.trans (B8.out.mono B7.out.size)⟩

end Go.Proofs.Ytjjldcnipgjfpaa
