/- BitmapReads: the map of any bytes, or the error; its bytes are those: the walk of the law, for every input. -/
import Derived.Test.YtafndflddlieiaaDoorRefC
namespace Go.Proofs.YtafndflddlieiaaDoor
open Go.RowKit
attribute [local irreducible] wpQuiet
attribute [local go_sem high] run_mxI run_mnI

/-- What the law reaches at a map and the reference's row of the same bits. -/
theorem count_f {b n : Nat} {W : Nat → BitVec 64} {w : World} {f : Nat → Bool} (h : Hid (MapIs w b n W)) (hn : n ≤ 4096) (hf : ∀ y, bitW W y = f y) (hz : ∀ y, n ≤ y → f y = false) :
    Calls Tryd.prog 12 #[.pointer (some ⟨b, 0, none⟩)] w fun e w' => e = .returned (.int .i64 (cntF f n : Nat)) ∧ w = w' := by
  have e : cntW W 64 = cntF f n := by
    rw [cnt_below hn (fun y hy => by rw [hf]; exact hz y hy)]
    exact cntF_congr fun y _ => hf y
  have := count_any h
  rw [e] at this
  exact this
theorem rruns_p {w : World} {B n c : Nat} {A : Option Addr} {f : Nat → Bool} {W : Nat → BitVec 64} (h : Hid (Holds w B A (bcs f n))) (hB : B ≤ w.heap.size) (hn : n ≤ 4096) (hf : ∀ y, bitW W y = f y) (on : Bool) {p q : Nat → Bool} {L : List (Nat × Nat)} (hp : p = isP W on) (hq : q = isP W (!on)) (hL : L = rowsF p q n 0) :
    Calls Tryd.prog 27 #[.slice A n c, .bool on] w fun e w' => ∃ A' c', e = .returned (.slice A' L.length c') ∧ Holds w' w'.heap.size A' (rcs L) ∧ Below w.heap.size w w' :=
  rruns_any h hB hn on (p := p) (q := q) (fun y => by rw [hp, ← hf]; rfl) (fun y => by rw [hp, hq]; exact isP_not W on y) hL

set_option maxRecDepth 100000 in
set_option maxHeartbeats 1000000 in
theorem reads_walk (s : ByteArray) (x : Int) {w : World} (hT : Hid (TabIs w)) :
    Calls Tryd.prog 5 #[.string s, .int .i64 x] w fun e w' => e = .returned (.bool true) ∧ Below w.heap.size w w' := by
  have ht0 := hT.out.lt
  by_cases hl : s.size ≤ 2000
  · by_cases hx : x < 0 ∨ 4096 < x
    · have h1 := hid (read_arg s hx w)
      have h2 := hid (rread_arg s hx w)
      clear hx
      go_enter Tryd.func5, Tryd.ntmps5
      go_wp2_with fail
      refine h1.out.mono ?_
      rintro e w1 ⟨rfl, rfl⟩
      go_wp2_with fail
      refine h2.out.mono ?_
      rintro e w1 ⟨rfl, rfl⟩
      go_wp2_with fail
      refine (awake_any hT).mono ?_
      rintro e w1 ⟨rfl, hb⟩
      have B1 := hid hb
      clear hb
      go_wp2_with fail
      go_ret
      exact ⟨rfl, B1.out⟩
    · obtain ⟨n, rfl⟩ := Int.eq_ofNat_of_zero_le (show 0 ≤ x by omega)
      have hn : n ≤ 4096 := by omega
      clear hx
      by_cases hs : s.size = (n + 7) / 8
      · have hr1 := hid (read_any s hn hs w)
        have hr2 := hid (fun v => rread_any s hn hs v)
        have htx := text_fill s hs
        have HS := hid hs
        clear hs
        go_enter Tryd.func5, Tryd.ntmps5
        go_wp2_with fail
        refine hr1.out.mono ?_
        rintro e w1 (⟨he, rfl, hm, hb⟩ | ⟨he, rfl, hb⟩)
        · have M1 := hid hm
          have B1 := hid hb
          have hE := hid he
          clear hm hb he
          go_wp2_with fail
          refine (hr2.out w1).mono ?_
          rintro e w2 (⟨hz, rfl, hh, hb2⟩ | ⟨hz, rfl, hb2⟩)
          · have hMlt := Blk.lt M1.out
            have M2 := hid (Blk.below M1.out hb2 hMlt)
            have T2 := hid ((hT.out.below B1.out ht0).below hb2 (by omega))
            have B2 := hid (B1.out.trans (hb2.mono (by omega)))
            have H2 := hid hh
            have HZ := hid hz
            have hM2lt := Blk.lt M2.out
            clear hz hh hb2
            have hTx := hid (text_any M2 hn)
            rw [htx] at hTx
            go_wp2_with fail
            refine hTx.out.mono ?_
            rintro e w3 ⟨rfl, hb3⟩
            have M3 := hid (Blk.below M2.out hb3 hM2lt)
            have T3 := hid (T2.out.below hb3 (by omega))
            have B3 := hid (B2.out.trans (hb3.mono (by omega)))
            have H3 := hid (H2.out.below hb3)
            have hs3 : w2.heap.size ≤ w3.heap.size := hb3.size
            clear hb3
            go_wp2_with fail
            refine (count_f M3 hn (bit_full s) HZ.out).mono ?_
            rintro e w4 ⟨rfl, rfl⟩
            go_wp2_with fail
            refine (rcount_any H3 hn).mono ?_
            rintro e w4 ⟨rfl, rfl⟩
            obtain ⟨W, hW⟩ : ∃ W, W = fillW s s.size := ⟨_, rfl⟩
            have hbf : ∀ y, bitW W y = sB s y := by rw [hW]; exact bit_full s
            rw [← hW] at M3
            obtain ⟨p, hp⟩ : ∃ p, p = isP W true := ⟨_, rfl⟩
            obtain ⟨p', hp'⟩ : ∃ p, p = isP W (!true) := ⟨_, rfl⟩
            obtain ⟨L, hL⟩ : ∃ L, L = rowsF p p' n 0 := ⟨_, rfl⟩
            have hLn := rows_le (Nat.zero_le n) (by intro y; rw [hp, hp']; exact isP_not W true y) hL
            have hR1 := hid (runs_p M3 T3 hn true hp hp' hL)
            have hR2 := hid (fun (v : World) (hv : Hid (Holds v w2.heap.size (some ⟨w1.heap.size, 0, none⟩) (bcs (sB s) n))) (hb : w2.heap.size ≤ v.heap.size) => rruns_p (c := n) hv hb hn hbf true hp hp' hL)
            have HF := hid hbf
            clear hW hp hp' hL hbf
            go_wp2_with fail
            refine hR1.out.mono ?_
            rintro e w5 ⟨A1, c1, rfl, hh1, hb5⟩
            have G1 := hid hh1
            have T5 := hid (T3.out.below hb5 (by omega))
            have B5 := hid (B3.out.trans (hb5.mono (by omega)))
            have H5 := hid (H3.out.below (hb5.mono hs3))
            have hs5 := hb5.size
            clear hh1 hb5
            go_wp2_with fail
            refine (hR2.out w5 H5 (by omega)).mono ?_
            rintro e w6 ⟨A2, c2, rfl, hh2, hb6⟩
            have G1' := hid (G1.out.below hb6)
            have G2 := hid hh2
            have T6 := hid (T5.out.below hb6 (by omega))
            have B6 := hid (B5.out.trans (hb6.mono (by omega)))
            clear hh2 hb6
            go_wp2_with fail
            refine (same_eq G1' G2 (by omega)).mono ?_
            rintro e w7 ⟨rfl, hq7⟩
            have T7 := hid (show TabIs w7 by obtain ⟨q, e⟩ := hq7; rw [e]; exact T6.out)
            have B7 := hid (show Below w.heap.size w w7 by obtain ⟨q, e⟩ := hq7; rw [e]; exact below_drewN B6.out q)
            clear hq7
            go_wp2_with fail
            refine (awake_any T7).mono ?_
            rintro e w8 ⟨rfl, hb8⟩
            have B8 := hid (B7.out.trans (hb8.mono B7.out.size))
            clear hb8
            go_wp2_with fail
            go_ret
            exact ⟨rfl, B8.out⟩
          · exact absurd hz (fun h => by have := fill_bad hn HS.out h; rw [hE.out] at this; exact absurd this (by decide))
        · have B1 := hid hb
          have hE := hid he
          clear hb he
          go_wp2_with fail
          refine (hr2.out w1).mono ?_
          rintro e w2 (⟨hz, rfl, -, -⟩ | ⟨-, rfl, hb2⟩)
          · exact absurd hE.out (by rw [fill_ok hz]; decide)
          · have T2 := hid ((hT.out.below B1.out ht0).below hb2 (by have := B1.out.size; omega))
            have B2 := hid (B1.out.trans (hb2.mono B1.out.size))
            clear hb2
            go_wp2_with fail
            refine (awake_any T2).mono ?_
            rintro e w8 ⟨rfl, hb8⟩
            have B8 := hid (B2.out.trans (hb8.mono B2.out.size))
            clear hb8
            go_wp2_with fail
            go_ret
            exact ⟨rfl, B8.out⟩
      · have h1 := hid (read_size s hn hs w)
        have h2 := hid (rread_size s hn hs w)
        clear hs
        go_enter Tryd.func5, Tryd.ntmps5
        go_wp2_with fail
        refine h1.out.mono ?_
        rintro e w1 ⟨rfl, rfl⟩
        go_wp2_with fail
        refine h2.out.mono ?_
        rintro e w1 ⟨rfl, rfl⟩
        go_wp2_with fail
        refine (awake_any hT).mono ?_
        rintro e w1 ⟨rfl, hb⟩
        have B1 := hid hb
        clear hb
        go_wp2_with fail
        go_ret
        exact ⟨rfl, B1.out⟩
  · go_enter Tryd.func5, Tryd.ntmps5
    go_wp2_with fail
    refine (awake_any hT).mono ?_
    rintro e w1 ⟨rfl, hb⟩
    have B1 := hid hb
    clear hb
    go_wp2_with fail
    go_ret
    exact ⟨rfl, B1.out⟩
end Go.Proofs.YtafndflddlieiaaDoor
