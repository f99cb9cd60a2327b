/- BitmapTakes: bits that are taken were free, stand side by side, nothing stands lower; free again the map is as it was: the walk of the law, for every input. -/
import Derived.Test.YtafndflddlieiaaDoorLawsA
import Derived.Test.YtafndflddlieiaaDoorPlain
import Derived.Test.YtafndflddlieiaaDoorText
namespace Go.Proofs.YtafndflddlieiaaDoor
open Go.RowKit
attribute [local irreducible] wpQuiet
attribute [local go_sem high] run_mxI run_mnI

theorem take_full2 {b n : Nat} {W : Nat → BitVec 64} {w : World} (h : Hid (MapIs w b n W)) (hT : Hid (TabIs w)) (hn : n ≤ 4096) {x : Int} (hx : 1 ≤ x) (hf : findR x (rowsF (isP W false) (isP W true) n 0) = -1) :
    Calls Tryd.prog 13 #[.pointer (some ⟨b, 0, none⟩), .int .i64 x] w fun e w' => e = .returned (.tuple #[.int .i64 0, .int .i64 5]) ∧ Below w.heap.size w w' := take_full h hT hn hx (by omega)
theorem free_back {b n : Nat} {W : Nat → BitVec 64} {w : World} {a l : Nat} (h : Hid (MapIs w b n (rowW W a true l))) (hT : Hid (TabIs w)) (hn : n ≤ 4096) (hl : 1 ≤ l) (hal : a + l ≤ n) (hf : ∀ y : Nat, a ≤ y → (y : Int) < a + l → bitW W y = false) :
    Calls Tryd.prog 15 #[.pointer (some ⟨b, 0, none⟩), .agg #[.int .i64 a, .int .i64 l]] w fun e w' => e = .returned (.int .i64 0) ∧ MapIs w' b n W ∧ Only (fun k => k = b) w w' := by
  refine (free_ok h hT hn hl hal).mono ?_
  rintro e w' (⟨h1, -, -⟩ | ⟨-, rfl, h2, h3⟩)
  · exfalso
    obtain ⟨s1, s2, s3, s4⟩ := nextF_spec (isP (rowW W a true l) false) (n := n) (a := a) (by omega)
    have := s4 (by omega)
    unfold isP at this s1 h1
    rw [bit_rowW, if_pos ⟨s1, h1⟩] at this
    exact absurd this (by decide)
  · rw [row_back hf] at h2
    exact ⟨rfl, h2, h3⟩

set_option maxRecDepth 100000 in
set_option maxHeartbeats 1000000 in
theorem takes_walk (m x : Int) {A : Option Addr} {len cap : Nat} {w : World} (hT : Hid (TabIs w)) (h : ∃ l : List Deed, l.length = len ∧ len ≤ maxLen ∧ DeedsAt w w.heap.size A l) :
    Calls Tryd.prog 3 #[.int .i64 m, .slice A len cap, .int .i64 x] w fun e w' => e = .returned (.bool true) ∧ Below w.heap.size w w' := by
  obtain ⟨l, rfl, hmax, hd⟩ := h
  unfold maxLen at hmax
  have HD := hid hd
  clear hd
  have ht0 := hT.out.lt
  obtain ⟨n, hN, hn⟩ := mn_nat m
  have HN := hid hN
  clear hN
  by_cases hl : l.length ≤ 60
  · go_enter Tryd.func3, Tryd.ntmps3
    go_wp2_with fail
    refine (new_any HN.out).mono ?_
    rintro e w1 ⟨rfl, hm, hb⟩
    have M1 := hid hm
    have B1 := hid hb
    clear hm hb
    go_wp2_with fail
    go_loopw [8] (fun i wr => ∃ (k : Nat) (W : Nat → BitVec 64), k ≤ l.length ∧ i = .int .i64 k ∧ Hid (MapIs wr w.heap.size n W ∧ Below w.heap.size w wr)) (fun i _ => l.length - (intOf i).toNat)
    case atStart => exact ⟨0, _, by omega, rfl, M1.out, B1.out⟩
    case round =>
      obtain ⟨k, W, hk, rfl, hI⟩ := hrel
      by_cases hkl : k < l.length
      · obtain ⟨ad, rfl, hb, hc⟩ := (HD.out.below hI.out.2).2 (by omega)
        obtain ⟨g0, g1, _⟩ := hc k hkl
        obtain ⟨d, hd⟩ : ∃ d, d = l.getD k default := ⟨_, rfl⟩
        rw [← hd] at g0 g1
        clear hc hd hb
        go_wp2_with fail
        go_region_with (go_at_call 10; refine (set_any (hid (Blk.drewN hI.out.1 _)) hn d.n _).mono ?_; rintro e w' ⟨rfl, hm, ho⟩; have HM := hid hm; have HB := hid ((below_drewN hI.out.2 1).trans (ho.below (by have := Blk.lt hI.out.1; show w.heap.size ≤ wr.heap.size; omega) (fun k hk e => by omega))); clear hm ho)
        all_goals go_wp2_with fail
        all_goals go_roundw
        all_goals first
          | exact ⟨k + 1, _, by omega, by go_num, hid ⟨HM.out, HB.out⟩⟩
          | (simp [intOf]; omega)
      · obtain rfl : k = l.length := by omega
        have hM := hid hI.out.1
        have hBd := hid hI.out.2
        have hT0 := hid (hT.out.below hI.out.2 ht0)
        have hbw := Blk.lt hI.out.1
        obtain ⟨c, hc⟩ : ∃ c, c = cntW W 64 := ⟨_, rfl⟩
        obtain ⟨t, ht⟩ : ∃ t, t = (⟨(textL n W).toArray⟩ : ByteArray) := ⟨_, rfl⟩
        have htx := hid (fun (v : World) (hm : Hid (MapIs v w.heap.size n W)) => text_any hm hn)
        have hct := hid (fun (v : World) (hm : Hid (MapIs v w.heap.size n W)) => count_any hm)
        rw [← ht] at htx
        rw [← hc] at hct
        have hc4 : c ≤ 4096 := by rw [hc]; exact cntW_le W 64
        have HC := hid hc
        clear ht hc
        go_wp2_with fail
        refine (htx.out _ hM).mono ?_
        rintro e w2 ⟨rfl, hb2⟩
        have hM2 := hid (Blk.below hM.out hb2 hbw)
        have hT2 := hid (hT0.out.below hb2 (by omega))
        have hB2 := hid (hBd.out.trans (hb2.mono (by omega)))
        clear hb2
        go_wp2_with fail
        refine (hct.out _ hM2).mono ?_
        rintro e w3 ⟨rfl, rfl⟩
        go_wp2_with fail
        have hb2 := Blk.lt hM2.out
        rcases find_free (W := W) (n := n) x with hf | ⟨r, hf, hx1, hrx, hz⟩
        · by_cases hx : x < 1
          · refine (take_bad hx).mono ?_
            rintro e w4 ⟨rfl, rfl⟩
            go_wp2_with fail
            refine (htx.out _ hM2).mono ?_
            rintro e w5 ⟨rfl, hb5⟩
            have hT5 := hid (hT2.out.below hb5 (by omega))
            have hB5 := hid (hB2.out.trans (hb5.mono (by omega)))
            clear hb5
            go_wp2_with fail
            refine (awake_any hT5).mono ?_
            rintro e w6 ⟨rfl, hb6⟩
            have hB6 := hid (hB5.out.trans (hb6.mono hB5.out.size))
            clear hb6
            go_wp2_with fail
            go_ret
            exact ⟨rfl, hB6.out⟩
          · have hx1 : 1 ≤ x := by omega
            refine (take_full2 hM2 hT2 hn hx1 hf).mono ?_
            rintro e w4 ⟨rfl, hb4⟩
            have hM4 := hid (Blk.below hM2.out hb4 hb2)
            have hT4 := hid (hT2.out.below hb4 (by omega))
            have hB4 := hid (hB2.out.trans (hb4.mono hB2.out.size))
            have hb4' := Blk.lt hM4.out
            clear hb4
            go_wp2_with fail
            refine (htx.out _ hM4).mono ?_
            rintro e w5 ⟨rfl, hb5⟩
            have hT5 := hid (hT4.out.below hb5 (by omega))
            have hB5 := hid (hB4.out.trans (hb5.mono hB4.out.size))
            clear hb5
            go_wp2_with fail
            refine (awake_any hT5).mono ?_
            rintro e w6 ⟨rfl, hb6⟩
            have hB6 := hid (hB5.out.trans (hb6.mono hB5.out.size))
            clear hb6
            go_wp2_with fail
            go_ret
            refine ⟨?_, hB6.out⟩
            show Ending.returned (Value.bool (!decide (x < 1))) = _
            rw [decide_eq_false (show ¬ x < 1 by omega)]
            rfl
        · obtain ⟨z, rfl⟩ := Int.eq_ofNat_of_zero_le (show 0 ≤ x by omega)
          have hHZ := hid hz
          clear hz
          have hrz : r + z ≤ n := by omega
          have hz1 : 1 ≤ z := by omega
          have hct2 := hid (fun (v : World) (hm : Hid (MapIs v w.heap.size n (rowW W r true z))) => count_any hm)
          have hcz : cntW (rowW W r true z) 64 = c + z := by rw [HC.out]; exact cntW_row W r z (by omega) hHZ.out
          rw [hcz] at hct2
          have hg1 := hid (fun (v : World) (hm : Hid (MapIs v w.heap.size n (rowW W r true z))) => get_yes hm (x := r) (by omega) hn)
          have hg2 := hid (fun (v : World) (hm : Hid (MapIs v w.heap.size n (rowW W r true z))) => get_yes hm (x := r + z - 1) (by omega) hn)
          rw [bit_rowW, if_pos (by omega)] at hg1 hg2
          have hcast : (((r + z - 1 : Nat)) : Int) = (r : Int) + z - 1 := by omega
          rw [hcast] at hg2
          have hFind := hid (fun (v : World) (hm : Hid (MapIs v w.heap.size n W)) (hT : Hid (TabIs v)) => find_any hm hT hn z)
          rw [hf] at hFind
          have hff := hid hf
          clear hcz hcast hf
          refine (take_yes hM2 hT2 hn hz1 hff.out hrz).mono ?_
          rintro e w4 ⟨rfl, hm4, ho4⟩
          have hb0 : 0 < w.heap.size := ht0
          have hM4 := hid hm4
          have hT4 := hid (TabIs.only hT2.out ho4 (by omega))
          have hB4 := hid (hB2.out.trans (ho4.below hB2.out.size (fun k hk e => by omega)))
          clear hm4 ho4
          go_wp2_with fail
          refine (hct2.out _ hM4).mono ?_
          rintro e w5 ⟨rfl, rfl⟩
          go_wp2_with fail
          refine (hg1.out _ hM4).mono ?_
          rintro e w5 ⟨rfl, rfl⟩
          go_wp2_with fail
          refine (hg2.out _ hM4).mono ?_
          rintro e w5 ⟨rfl, rfl⟩
          go_wp2_with fail
          refine (free_back hM4 hT4 hn hz1 hrz hHZ.out).mono ?_
          rintro e w5 ⟨rfl, hm5, ho5⟩
          have hM5 := hid hm5
          have hT5 := hid (TabIs.only hT4.out ho5 (by omega))
          have hB5 := hid (hB4.out.trans (ho5.below hB4.out.size (fun k hk e => by omega)))
          have hb5 := Blk.lt hM5.out
          clear hm5 ho5
          go_wp2_with fail
          refine (htx.out _ hM5).mono ?_
          rintro e w6 ⟨rfl, hb6⟩
          have hM6 := hid (Blk.below hM5.out hb6 hb5)
          have hT6 := hid (hT5.out.below hb6 (by omega))
          have hB6 := hid (hB5.out.trans (hb6.mono hB5.out.size))
          clear hb6
          go_wp2_with fail
          refine (hFind.out _ hM6 hT6).mono ?_
          rintro e w7 ⟨rfl, hb7⟩
          have hT7 := hid (hT6.out.below hb7 (by have := Blk.lt hM6.out; omega))
          have hB7 := hid (hB6.out.trans (hb7.mono hB6.out.size))
          clear hb7
          go_wp2_with fail
          refine (awake_any hT7).mono ?_
          rintro e w8 ⟨rfl, hb8⟩
          have hB8 := hid (hB7.out.trans (hb8.mono hB7.out.size))
          clear hb8
          go_wp2_with fail
          go_ret
          exact ⟨rfl, hB8.out⟩
  · go_enter Tryd.func3, Tryd.ntmps3
    go_wp2_with fail
    refine (awake_any hT).mono ?_
    rintro e w1 ⟨rfl, hb⟩
    have B1 := hid hb
    clear hb
    go_wp2_with fail
    go_ret
    exact ⟨rfl, B1.out⟩
end Go.Proofs.YtafndflddlieiaaDoor
