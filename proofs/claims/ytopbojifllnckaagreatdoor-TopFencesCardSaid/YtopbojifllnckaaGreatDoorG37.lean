/- TopFences: who begins a stripe ahead of a change of the group does not commit it behind it: the walk. TopFences, whatever comes in: it gives true. -/
import Derived.Test.YtopbojifllnckaaGreatDoorG36
import Derived.Test.YtopbojifllnckaaGreatDoorRun
namespace Go.Proofs.YtopbojifllnckaaGreatDoor
open Go.RowKit
attribute [local irreducible] wpQuiet
theorem FAt.com_in {w w' : World} {B gm k : Nat} {cl id ez : Int} {O : Prop} (h : FAt w B gm cl k O id ez w') (hO : O) : Cmd.In ⟨cl, 1073741825, 2, id, 0, 0, 0, 0⟩ := by
  obtain ⟨p1, p2, p3, p4, p5, p6, T, L, ep, N, f, h, _⟩ := h
  obtain ⟨_, j, rfl, hj, _⟩ := h.own hO
  exact Go.Proofs.YtopbojifllnckaaGreatDoor.com_in cl hj
set_option maxRecDepth 100000 in
set_option maxHeartbeats 6400000 in
theorem fences_in (client : Int) {A : Option Addr} {len cap : Nat} {w : World} (hg : len ≤ 40 ∧ 0 ≤ client ∧ client < 16) (h : ∃ l : List Cmd, l.length = len ∧ CmdsAt w w.heap.size A l) :
    Calls Tryz.prog 3 #[.slice A len cap, .int .i64 client] w fun e w' => e = .returned (.bool true) ∧ Below w.heap.size w w' := by
  obtain ⟨l, hl, hC⟩ := h
  have HC := hid (And.intro hl hC)
  have G := hid hg
  have h40 : decide ((40 : Int) < (len : Int)) = false := by simp; omega
  have h41 : decide (client < 0) = false := by simp; omega
  have h42 : decide ((16 : Int) ≤ client) = false := by simp; omega
  have hB0 : Blk (w.alloc (.cells #[.int .i64 0, .int .i64 1, .int .i64 2] 3)) w.heap.size 3 #[.int .i64 0, .int .i64 1, .int .i64 2] := Blk.new w 3 _
  have hsz : (w.alloc (.cells #[.int .i64 0, .int .i64 1, .int .i64 2] 3)).heap.size = w.heap.size + 1 := by simp
  have hB1 : Blk ((w.alloc (.cells #[.int .i64 0, .int .i64 1, .int .i64 2] 3)).alloc (.cells #[.int .i64 3, .int .i64 4] 3)) (w.heap.size + 1) 3 #[.int .i64 3, .int .i64 4] := by rw [← hsz]; exact Blk.new _ 3 _
  have hN : Hid (Calls Tryz.prog 6 #[.slice (some ⟨w.heap.size, 0, none⟩) 3 3, .slice (some ⟨w.heap.size + 1, 0, none⟩) 2 2] ((w.alloc (.cells #[.int .i64 0, .int .i64 1, .int .i64 2] 3)).alloc (.cells #[.int .i64 3, .int .i64 4] 3)) fun e w' => ∃ gm p1 p2 p3 p4 p5 p6 T, e = .returned (.pointer (some ⟨gm, 0, none⟩)) ∧ Mgr w.heap.size T w' gm p1 p2 p3 p4 p5 p6 [] 1 0 (fun _ => 0) ∧ Below w.heap.size ((w.alloc (.cells #[.int .i64 0, .int .i64 1, .int .i64 2] 3)).alloc (.cells #[.int .i64 3, .int .i64 4] 3)) w') :=
    New_any (B := w.heap.size) (hB0.alloc (.cells #[.int .i64 3, .int .i64 4] 3)) hB1 (by omega) (Nat.le_refl _) (by omega)
  have hbN := hid (((Below.refl w.heap.size w).alloc (Nat.le_refl _) (.cells #[.int .i64 0, .int .i64 1, .int .i64 2] 3)).alloc (by simp) (.cells #[.int .i64 3, .int .i64 4] 3))
  obtain ⟨hf, hhf⟩ : ∃ hf : Nat, hf = len / 2 := ⟨_, rfl⟩
  have htd : Int.tdiv (len : Int) 2 = (hf : Int) := by rw [hhf]; rfl
  have hfl : hf ≤ len := by omega
  have HF := hid hhf
  have hl40 : len ≤ 40 := hg.1
  clear hl hC hg hB0 hB1 hsz hhf
  go_enter Tryz.func3, Tryz.ntmps3
  go_wp2_with fail
  refine hN.out.mono ?_
  rintro e0 w1 ⟨gm, p1, p2, p3, p4, p5, p6, T, rfl, hm, hb⟩
  have hF0 : Hid (FAt w w.heap.size gm client 0 (hf < 0) (-1) 0 w1) := ⟨p1, p2, p3, p4, p5, p6, T, [], 1, 0, _, ⟨hm, by omega, fun _ => by omega, fun _ => by simp, fun _ _ => by simp, fun h => by omega, fun _ => ⟨by simp, rfl⟩⟩, hbN.out.trans hb⟩
  clear hm hb hN hbN
  go_wp2_with fail
  go_loopw [6, 7, 8, 9] (fun v6 v7 v8 v9 wr => ∃ (k : Nat) (id ez : Int), k ≤ len ∧ v6 = .int .i64 id ∧ v7 = .int .i64 ez ∧ v8 = .int .i64 k ∧ v9 = .int .i64 k ∧ Hid (FAt w w.heap.size gm client k (hf < k) id ez wr)) (fun _ _ _ v9 _ => len + 1 - (intOf v9).toNat)
  case atStart => exact ⟨0, -1, 0, Nat.zero_le _, rfl, rfl, rfl, rfl, hF0⟩
  case round =>
    clear hF0
    obtain ⟨k, id, ez, hk, rfl, rfl, rfl, rfl, hI⟩ := hrel
    by_cases hh : k = hf
    · subst hh
      have hnO : ¬ (k < k) := by omega
      obtain ⟨s1, hs1⟩ : ∃ s1, s1 = encC ⟨client, 1073741824, 1, 5, 0, 0, 0, 0⟩ := ⟨_, rfl⟩
      have hc7 : Hid (Calls Tryz.prog 7 #[.agg #[.int .i64 client, .int .i64 1073741824, .int .i64 1, .int .i64 5, .int .i64 0, .int .i64 0, .int .i64 0, .int .i64 0]] wr fun e w' => e = .returned (.tuple #[.string s1, .int .i64 0]) ∧ Below wr.heap.size wr w') := by
        rw [hs1]
        exact renc_ok ⟨client, 1073741824, 1, 5, 0, 0, 0, 0⟩ (beg_ok G.out.2.1 G.out.2.2) (beg_in client) wr
      have HS1 := hid hs1
      have hkk : ((k : Int) == (k : Int)) = true := by simp
      have hle : (k : Int) ≤ (len : Int) := by omega
      clear hs1
      go_wp2_with fail
      refine hc7.out.mono ?_
      rintro e0 w2 ⟨rfl, hb2⟩
      have hc9 := (hI.out.below hb2).begin_ hnO (by have := G.out.1; omega) G.out.2.1 G.out.2.2
      rw [← HS1.out] at hc9
      have HC9 := hid hc9
      clear hc9 hb2 hc7 HS1
      go_wp2_with fail
      refine HC9.out.mono ?_
      rintro e0 w3 ⟨l1, r, rfl, k1, k2, k3, k4, k5⟩
      have hc8 := hid (Answer_ok r k3 k1 (by omega) w3)
      obtain ⟨s2, hs2⟩ : ∃ s2, s2 = ansB l1 r := ⟨_, rfl⟩
      rw [← hs2] at hc8 ⊢
      have HK := hid (And.intro k4 k5)
      clear hs2 HC9 k4 k5 k1
      go_wp2_with fail
      refine hc8.out.mono ?_
      rintro e0 w4 ⟨v, rfl, hv, hb4⟩
      clear hc8
      have hbB := HK.out.1
      have hb5 : Below w.heap.size w w4 := hbB.trans (hb4.mono hbB.size)
      by_cases r0 : r = 0
      · subst r0
        obtain ⟨j, ep, rfl, hF, hj, hE⟩ := HK.out.2 rfl
        rw [if_pos rfl] at hv
        have hv2 : w4.ownsRow w3.heap.size 3 1 v 2 (nums [(j : Int), ep]) := hv
        obtain ⟨A2, c2, rfl⟩ := own_form hv2
        rcases own_blk hv2 with ⟨_, h20, _⟩ | ⟨g2, cur, rfl, _, hB2, hle2, _, hcs, htk⟩
        · omega
        have y0 : w4.cell? ⟨g2, 0, none⟩ = some (.int .i64 j) := by
          rw [hB2.cell, ← Array.getElem?_toList]
          have : (cur.toList.take (2 * 1))[0]? = some (.int .i64 j) := by rw [htk]; rfl
          rw [List.getElem?_take] at this
          simpa using this
        have hc10 := hid (hE w4 hb4)
        have hI2 := hid (hF.below hb4)
        have h2c : (2 : Int) ≤ (c2 : Int) := by omega
        clear hE hF hv hv2 hbB hb5 hB2 hcs htk hb4 HK hI hnO
        go_wp2_with fail
        refine hc10.out.mono ?_
        rintro e0 w5 ⟨rfl, rfl⟩
        clear hc10 y0
        have HIX := hI2
        clear hI2
        by_cases hl : k = len
        · obtain ⟨s3, hs3⟩ : ∃ s3, s3 = encC ⟨client, 1073741825, 2, j, 0, 0, 0, 0⟩ := ⟨_, rfl⟩
          have hci := HIX.out.com_in trivial
          have hc7 : Hid (Calls Tryz.prog 7 #[.agg #[.int .i64 client, .int .i64 1073741825, .int .i64 2, .int .i64 j, .int .i64 0, .int .i64 0, .int .i64 0, .int .i64 0]] w4 fun e w' => e = .returned (.tuple #[.string s3, .int .i64 0]) ∧ Below w4.heap.size w4 w') := by
            rw [hs3]
            exact renc_ok ⟨client, 1073741825, 2, j, 0, 0, 0, 0⟩ (com_ok j G.out.2.1 G.out.2.2) hci w4
          have HS3 := hid hs3
          have hkl : ((k : Int) == (len : Int)) = true := by simp [hl]
          clear hs3 hci
          go_wp2_with fail
          refine hc7.out.mono ?_
          rintro e0 y2 ⟨rfl, hb2⟩
          have hc9 := (HIX.out.below hb2).commit_ trivial (by have := G.out.1; omega) G.out.2.1 G.out.2.2
          rw [← HS3.out] at hc9
          have HC9 := hid hc9
          clear hc9 hb2 hc7 HS3
          go_wp2_with fail
          refine HC9.out.mono ?_
          rintro e0 y3 ⟨l1, r, rfl, k1, k2, k3, k4⟩
          have hc8 := hid (Answer_ok r k3 k1 (by omega) y3)
          obtain ⟨s4, hs4⟩ : ∃ s4, s4 = ansB l1 r := ⟨_, rfl⟩
          rw [← hs4] at hc8 ⊢
          have HK := hid k4
          clear hs4 HC9 k4 k1
          go_wp2_with fail
          refine hc8.out.mono ?_
          rintro e0 y4 ⟨v, rfl, _, hb4⟩
          obtain ⟨ep9, st, hcs, hbB, hBs, hE, hS⟩ := HK.out
          have hc11 := hid (hS y4 hb4)
          have hb5 : Below w.heap.size w y4 := hbB.trans (hb4.mono hBs)
          have HE := hid hE
          have HB4 := hid (And.intro hb4 hb5)
          have hy4 := hb5.size
          clear hc8 hS hE hbB hBs hb4 hb5 HK HIX
          go_wp2_with fail
          refine hc11.out.mono ?_
          rintro e0 y5 ⟨i, ow, se, ln, A3, n3, c3, rfl, hb6⟩
          have HB6 := hid hb6
          clear hb6 hc11
          go_upto_region 28 with (fail)
          obtain ⟨y6, hy6⟩ : ∃ y6, y6 = y5.alloc (.cells #[.int .i64 i, .int .i64 st, .int .i64 ow, .int .i64 se, .int .i64 ln, .slice A3 n3 c3] 37) := ⟨_, rfl⟩
          rw [← hy6]
          have hb7 : Below y4.heap.size y4 y6 := by rw [hy6]; exact HB6.out.alloc HB6.out.size _
          have x1 : y6.cell? ⟨y5.heap.size, 1, none⟩ = some (.int .i64 st) := by rw [hy6, (Blk.new y5 37 _).cell]; rfl
          have hc10 := hid (HE.out y6 (HB4.out.1.trans (hb7.mono HB4.out.1.size)))
          have HB7 := hid (HB4.out.2.trans (hb7.mono hy4))
          have hcA := hid (awake_any y6)
          clear hy6 hb7 HE HB4 HB6
          go_wp2_with fail
          refine hc10.out.mono ?_
          rintro e0 y7 ⟨rfl, rfl⟩
          clear hc10
          rcases hcs with ⟨rfl, rfl, rfl⟩ | ⟨hne, rfl, rfl⟩
          · go_wp2_with fail
            refine hcA.out.mono ?_
            rintro e0 y8 ⟨rfl, hb8⟩
            have HB8 := hid (HB7.out.trans (hb8.mono HB7.out.size))
            clear hb8 hcA
            go_wp2_with fail
            go_ret
            exact ⟨rfl, HB8.out⟩
          · have d0 : (ep9 == ep) = false := by simp [hne]
            go_wp2_with fail
            refine hcA.out.mono ?_
            rintro e0 y8 ⟨rfl, hb8⟩
            have HB8 := hid (HB7.out.trans (hb8.mono HB7.out.size))
            clear hb8 hcA
            go_wp2_with fail
            go_ret
            exact ⟨rfl, HB8.out⟩
        · have hkl : ((k : Int) == (len : Int)) = false := by simp; omega
          have hkn : k < len := by omega
          obtain ⟨ad, x, rfl, hx, hxi, e0, e1, e2, e3, e4, e5, e6, e7⟩ := (HC.out.2.below HIX.out.bel).eight (i := k) (by rw [HC.out.1]; exact hkn)
          obtain ⟨xc, xq, kd, xa, xb, xc2, xd, xe⟩ := x
          have HXI := hid hxi
          obtain ⟨o, ho⟩ : ∃ o, Int.tmod (client + 1) 16 = o := ⟨_, rfl⟩
          have HO := hid ho
          have hkl2 : (k : Int) < (len : Int) := by omega
          have h0k : (0 : Int) ≤ (k : Int) := by omega
          have hc1 : client < 16 := G.out.2.2
          have hc0 : 0 ≤ client := G.out.2.1
          clear hx hxi
          simp only at e0 e1 e2 e3 e4 e5 e6 e7
          go_upto_region 22 with (fail)
          obtain ⟨W6, hW6⟩ : ∃ W6, W6 = w4.alloc (.cells #[.int .i64 o, .int .i64 k, .int .i64 kd, .int .i64 xa, .int .i64 xb, .int .i64 xc2, .int .i64 xd, .int .i64 xe] 30) := ⟨_, rfl⟩
          rw [← hW6]
          obtain ⟨bx, hbx⟩ : ∃ bx, bx = w4.heap.size := ⟨_, rfl⟩
          rw [← hbx]
          have hbz : Below w4.heap.size w4 W6 := by rw [hW6]; exact (Below.refl _ _).alloc (Nat.le_refl _) _
          have hBz : Blk W6 bx 30 #[.int .i64 o, .int .i64 k, .int .i64 kd, .int .i64 xa, .int .i64 xb, .int .i64 xc2, .int .i64 xd, .int .i64 xe] := by rw [hW6, hbx]; exact Blk.new w4 30 _
          have HI6 := hid (HIX.out.below hbz)
          have y0 : W6.cell? ⟨bx, 0, none⟩ = some (.int .i64 o) := (hBz.cell 0).trans rfl
          have y1 : W6.cell? ⟨bx, 1, none⟩ = some (.int .i64 k) := (hBz.cell 1).trans rfl
          have y2 : W6.cell? ⟨bx, 2, none⟩ = some (.int .i64 kd) := (hBz.cell 2).trans rfl
          have y3 : W6.cell? ⟨bx, 3, none⟩ = some (.int .i64 xa) := (hBz.cell 3).trans rfl
          have y4 : W6.cell? ⟨bx, 4, none⟩ = some (.int .i64 xb) := (hBz.cell 4).trans rfl
          have y5 : W6.cell? ⟨bx, 5, none⟩ = some (.int .i64 xc2) := (hBz.cell 5).trans rfl
          have y6 : W6.cell? ⟨bx, 6, none⟩ = some (.int .i64 xd) := (hBz.cell 6).trans rfl
          have y7 : W6.cell? ⟨bx, 7, none⟩ = some (.int .i64 xe) := (hBz.cell 7).trans rfl
          have hne : o ≠ client := by
            have e : o = (client + 1) % 16 := by rw [← HO.out, Int.tmod_eq_emod_of_nonneg (by omega)]
            omega
          have HNE := hid hne
          have hin : Cmd.In ⟨o, k, kd, xa, xb, xc2, xd, xe⟩ := ⟨HXI.out xa (by simp [Cmd.list]), HXI.out xb (by simp [Cmd.list]), HXI.out xc2 (by simp [Cmd.list]), HXI.out xd (by simp [Cmd.list]), HXI.out xe (by simp [Cmd.list])⟩
          have HIN := hid hin
          clear hW6 hbx hbz hBz HIX hne hin e0 e1 e2 e3 e4 e5 e6 e7 ho HXI
          go_cut [106] (fun s106 wx => s106 = .bool (decide (kd = 3 ∧ xa = j ∧ 0 ≤ j)) ∧ wx = W6)
          case first =>
            by_cases c1 : kd = 3
            · have d1 : (kd == 3) = true := by simp [c1]
              have C1 := hid c1
              clear c1
              by_cases c2 : xa = j
              · have d2 : (xa == j) = true := by simp [c2]
                have C2 := hid c2
                clear c2
                by_cases c3 : 0 ≤ j
                · have d3 : decide (0 ≤ j) = true := by simp [c3]
                  go_wp2_with fail
                  go_meet
                  exact ⟨congrArg Value.bool (decide_eq_true (p := kd = 3 ∧ xa = j ∧ 0 ≤ j) ⟨C1.out, C2.out, c3⟩).symm, rfl⟩
                · first
                  | (exfalso; omega)
                  | (have d3 : decide (0 ≤ j) = false := by (simp; omega)
                     have C3 := hid c3
                     clear c3
                     go_wp2_with fail
                     go_meet
                     exact ⟨congrArg Value.bool (decide_eq_false (p := kd = 3 ∧ xa = j ∧ 0 ≤ j) fun h => by have := C3.out; omega).symm, rfl⟩)
              · have d2 : (xa == j) = false := by simp [c2]
                go_wp2_with fail
                go_meet
                exact ⟨congrArg Value.bool (decide_eq_false (p := kd = 3 ∧ xa = j ∧ 0 ≤ j) fun h => c2 h.2.1).symm, rfl⟩
            · have d1 : (kd == 3) = false := by simp [c1]
              go_wp2_with fail
              go_meet
              exact ⟨congrArg Value.bool (decide_eq_false (p := kd = 3 ∧ xa = j ∧ 0 ≤ j) fun h => c1 h.1).symm, rfl⟩
          case rest =>
            obtain ⟨rfl, hwc⟩ := hcut
            subst hwc
            by_cases hfr : kd = 3 ∧ xa = j ∧ 0 ≤ j
            · rw [decide_eq_true hfr]
              clear hfr y0 y1 y2 y3 y4 y5 y6 y7
              go_wp2_with fail
              go_roundw
              case rel => exact ⟨k + 1, j, ep, by omega, rfl, rfl, by go_num, by go_num, HI6.out.next.same ⟨fun _ => by omega, fun _ => trivial⟩⟩
              case measure => simp [intOf]; omega
            · rw [decide_eq_false hfr]
              have HFR := hid hfr
              clear hfr
              by_cases hok : Cmd.OK ⟨o, k, kd, xa, xb, xc2, xd, xe⟩
              · obtain ⟨s5, hs5⟩ : ∃ s5, s5 = encC ⟨o, k, kd, xa, xb, xc2, xd, xe⟩ := ⟨_, rfl⟩
                have hc7 : Hid (Calls Tryz.prog 7 #[.agg #[.int .i64 o, .int .i64 k, .int .i64 kd, .int .i64 xa, .int .i64 xb, .int .i64 xc2, .int .i64 xd, .int .i64 xe]] wc fun e w' => e = .returned (.tuple #[.string s5, .int .i64 0]) ∧ Below wc.heap.size wc w') := by
                  rw [hs5]
                  exact renc_ok ⟨o, k, kd, xa, xb, xc2, xd, xe⟩ hok HIN.out wc
                have HS5 := hid hs5
                have HOK := hid hok
                clear hs5 hok
                go_wp2_with fail
                refine hc7.out.mono ?_
                rintro e0 z2 ⟨rfl, hb2⟩
                have hc9 := (HI6.out.below hb2).other (by omega) o kd xa xb xc2 xd xe HNE.out HOK.out HIN.out (by have := HFR.out; omega)
                rw [← HS5.out] at hc9
                have HC9 := hid hc9
                clear hc9 hb2 hc7 HS5 y0 y1 y2 y3 y4 y5 y6 y7 HI6
                go_wp2_with fail
                refine HC9.out.mono ?_
                rintro e0 z3 ⟨⟨s6, rfl⟩, hI3⟩
                have HI3 := hid (hI3.same (O' := k < k + 1) ⟨fun _ => by omega, fun _ => trivial⟩)
                clear hI3 HC9
                go_wp2_with fail
                go_roundw
                case rel => exact ⟨k + 1, j, ep, by omega, rfl, rfl, by go_num, by go_num, HI3⟩
                case measure => simp [intOf]; omega
              · have hc7 : Hid (Calls Tryz.prog 7 #[.agg #[.int .i64 o, .int .i64 k, .int .i64 kd, .int .i64 xa, .int .i64 xb, .int .i64 xc2, .int .i64 xd, .int .i64 xe]] wc fun e w' => e = .returned (.tuple #[.string ⟨#[]⟩, .int .i64 1]) ∧ Below wc.heap.size wc w') := renc_bad ⟨o, k, kd, xa, xb, xc2, xd, xe⟩ hok wc
                clear hok
                go_wp2_with fail
                refine hc7.out.mono ?_
                rintro e0 z2 ⟨rfl, hb2⟩
                have HC9 := hid (HI6.out.below hb2).other_none
                clear hb2 hc7 y0 y1 y2 y3 y4 y5 y6 y7 HI6
                go_wp2_with fail
                refine HC9.out.mono ?_
                rintro e0 z3 ⟨⟨s6, rfl⟩, hI3⟩
                have HI3 := hid (hI3.same (O' := k < k + 1) ⟨fun _ => by omega, fun _ => trivial⟩)
                clear hI3 HC9
                go_wp2_with fail
                go_roundw
                case rel => exact ⟨k + 1, j, ep, by omega, rfl, rfl, by go_num, by go_num, HI3⟩
                case measure => simp [intOf]; omega
      · have d0 : ((r : Int) != 0) = true := by simp; omega
        have d1 : (r != 0) = true := by simp; omega
        have HB5 := hid hb5
        have hcA := hid (awake_any w4)
        clear hb5 hv hbB HK hb4
        go_wp2_with fail
        refine hcA.out.mono ?_
        rintro e0 w5 ⟨rfl, hb6⟩
        have HB6 := hid (HB5.out.trans (hb6.mono HB5.out.size))
        clear hb6 hcA HB5
        go_wp2_with fail
        go_ret
        exact ⟨rfl, HB6.out⟩
    · have hkk : ((k : Int) == (hf : Int)) = false := by simp; omega
      have HIX : Hid (FAt w w.heap.size gm client k (hf < k) id ez wr) := hI
      clear hI
      have hle : (k : Int) ≤ (len : Int) := by omega
      by_cases hl : k = len
      · have HIY : Hid (FAt w w.heap.size gm client k True id ez wr) := HIX.out.same (by simp; omega)
        clear HIX
        have HIX := HIY
        clear HIY
        obtain ⟨s3, hs3⟩ : ∃ s3, s3 = encC ⟨client, 1073741825, 2, id, 0, 0, 0, 0⟩ := ⟨_, rfl⟩
        have hci := HIX.out.com_in trivial
        have hc7 : Hid (Calls Tryz.prog 7 #[.agg #[.int .i64 client, .int .i64 1073741825, .int .i64 2, .int .i64 id, .int .i64 0, .int .i64 0, .int .i64 0, .int .i64 0]] wr fun e w' => e = .returned (.tuple #[.string s3, .int .i64 0]) ∧ Below wr.heap.size wr w') := by
          rw [hs3]
          exact renc_ok ⟨client, 1073741825, 2, id, 0, 0, 0, 0⟩ (com_ok id G.out.2.1 G.out.2.2) hci wr
        have HS3 := hid hs3
        have hkl : ((k : Int) == (len : Int)) = true := by simp [hl]
        clear hs3 hci
        go_wp2_with fail
        refine hc7.out.mono ?_
        rintro e0 y2 ⟨rfl, hb2⟩
        have hc9 := (HIX.out.below hb2).commit_ trivial (by have := G.out.1; omega) G.out.2.1 G.out.2.2
        rw [← HS3.out] at hc9
        have HC9 := hid hc9
        clear hc9 hb2 hc7 HS3
        go_wp2_with fail
        refine HC9.out.mono ?_
        rintro e0 y3 ⟨l1, r, rfl, k1, k2, k3, k4⟩
        have hc8 := hid (Answer_ok r k3 k1 (by omega) y3)
        obtain ⟨s4, hs4⟩ : ∃ s4, s4 = ansB l1 r := ⟨_, rfl⟩
        rw [← hs4] at hc8 ⊢
        have HK := hid k4
        clear hs4 HC9 k4 k1
        go_wp2_with fail
        refine hc8.out.mono ?_
        rintro e0 y4 ⟨v, rfl, _, hb4⟩
        obtain ⟨ep9, st, hcs, hbB, hBs, hE, hS⟩ := HK.out
        have hc11 := hid (hS y4 hb4)
        have hb5 : Below w.heap.size w y4 := hbB.trans (hb4.mono hBs)
        have HE := hid hE
        have HB4 := hid (And.intro hb4 hb5)
        have hy4 := hb5.size
        clear hc8 hS hE hbB hBs hb4 hb5 HK HIX
        go_wp2_with fail
        refine hc11.out.mono ?_
        rintro e0 y5 ⟨i, ow, se, ln, A3, n3, c3, rfl, hb6⟩
        have HB6 := hid hb6
        clear hb6 hc11
        go_upto_region 28 with (fail)
        obtain ⟨y6, hy6⟩ : ∃ y6, y6 = y5.alloc (.cells #[.int .i64 i, .int .i64 st, .int .i64 ow, .int .i64 se, .int .i64 ln, .slice A3 n3 c3] 37) := ⟨_, rfl⟩
        rw [← hy6]
        have hb7 : Below y4.heap.size y4 y6 := by rw [hy6]; exact HB6.out.alloc HB6.out.size _
        have x1 : y6.cell? ⟨y5.heap.size, 1, none⟩ = some (.int .i64 st) := by rw [hy6, (Blk.new y5 37 _).cell]; rfl
        have hc10 := hid (HE.out y6 (HB4.out.1.trans (hb7.mono HB4.out.1.size)))
        have HB7 := hid (HB4.out.2.trans (hb7.mono hy4))
        have hcA := hid (awake_any y6)
        clear hy6 hb7 HE HB4 HB6
        go_wp2_with fail
        refine hc10.out.mono ?_
        rintro e0 y7 ⟨rfl, rfl⟩
        clear hc10
        rcases hcs with ⟨rfl, rfl, rfl⟩ | ⟨hne, rfl, rfl⟩
        · go_wp2_with fail
          refine hcA.out.mono ?_
          rintro e0 y8 ⟨rfl, hb8⟩
          have HB8 := hid (HB7.out.trans (hb8.mono HB7.out.size))
          clear hb8 hcA
          go_wp2_with fail
          go_ret
          exact ⟨rfl, HB8.out⟩
        · have d0 : (ep9 == ez) = false := by simp [hne]
          go_wp2_with fail
          refine hcA.out.mono ?_
          rintro e0 y8 ⟨rfl, hb8⟩
          have HB8 := hid (HB7.out.trans (hb8.mono HB7.out.size))
          clear hb8 hcA
          go_wp2_with fail
          go_ret
          exact ⟨rfl, HB8.out⟩
      · have hkl : ((k : Int) == (len : Int)) = false := by simp; omega
        have hkn : k < len := by omega
        obtain ⟨ad, x, rfl, hx, hxi, e0, e1, e2, e3, e4, e5, e6, e7⟩ := (HC.out.2.below HIX.out.bel).eight (i := k) (by rw [HC.out.1]; exact hkn)
        obtain ⟨xc, xq, kd, xa, xb, xc2, xd, xe⟩ := x
        have HXI := hid hxi
        obtain ⟨o, ho⟩ : ∃ o, Int.tmod (client + 1) 16 = o := ⟨_, rfl⟩
        have HO := hid ho
        have hkl2 : (k : Int) < (len : Int) := by omega
        have h0k : (0 : Int) ≤ (k : Int) := by omega
        have hc1 : client < 16 := G.out.2.2
        have hc0 : 0 ≤ client := G.out.2.1
        clear hx hxi
        simp only at e0 e1 e2 e3 e4 e5 e6 e7
        go_upto_region 22 with (fail)
        obtain ⟨W6, hW6⟩ : ∃ W6, W6 = wr.alloc (.cells #[.int .i64 o, .int .i64 k, .int .i64 kd, .int .i64 xa, .int .i64 xb, .int .i64 xc2, .int .i64 xd, .int .i64 xe] 30) := ⟨_, rfl⟩
        rw [← hW6]
        obtain ⟨bx, hbx⟩ : ∃ bx, bx = wr.heap.size := ⟨_, rfl⟩
        rw [← hbx]
        have hbz : Below wr.heap.size wr W6 := by rw [hW6]; exact (Below.refl _ _).alloc (Nat.le_refl _) _
        have hBz : Blk W6 bx 30 #[.int .i64 o, .int .i64 k, .int .i64 kd, .int .i64 xa, .int .i64 xb, .int .i64 xc2, .int .i64 xd, .int .i64 xe] := by rw [hW6, hbx]; exact Blk.new wr 30 _
        have HI6 := hid (HIX.out.below hbz)
        have y0 : W6.cell? ⟨bx, 0, none⟩ = some (.int .i64 o) := (hBz.cell 0).trans rfl
        have y1 : W6.cell? ⟨bx, 1, none⟩ = some (.int .i64 k) := (hBz.cell 1).trans rfl
        have y2 : W6.cell? ⟨bx, 2, none⟩ = some (.int .i64 kd) := (hBz.cell 2).trans rfl
        have y3 : W6.cell? ⟨bx, 3, none⟩ = some (.int .i64 xa) := (hBz.cell 3).trans rfl
        have y4 : W6.cell? ⟨bx, 4, none⟩ = some (.int .i64 xb) := (hBz.cell 4).trans rfl
        have y5 : W6.cell? ⟨bx, 5, none⟩ = some (.int .i64 xc2) := (hBz.cell 5).trans rfl
        have y6 : W6.cell? ⟨bx, 6, none⟩ = some (.int .i64 xd) := (hBz.cell 6).trans rfl
        have y7 : W6.cell? ⟨bx, 7, none⟩ = some (.int .i64 xe) := (hBz.cell 7).trans rfl
        have hne : o ≠ client := by
          have e : o = (client + 1) % 16 := by rw [← HO.out, Int.tmod_eq_emod_of_nonneg (by omega)]
          omega
        have HNE := hid hne
        have hin : Cmd.In ⟨o, k, kd, xa, xb, xc2, xd, xe⟩ := ⟨HXI.out xa (by simp [Cmd.list]), HXI.out xb (by simp [Cmd.list]), HXI.out xc2 (by simp [Cmd.list]), HXI.out xd (by simp [Cmd.list]), HXI.out xe (by simp [Cmd.list])⟩
        have HIN := hid hin
        clear hW6 hbx hbz hBz HIX hne hin e0 e1 e2 e3 e4 e5 e6 e7 ho HXI
        go_cut [106] (fun s106 wx => s106 = .bool (decide (kd = 3 ∧ xa = id ∧ 0 ≤ id)) ∧ wx = W6)
        case first =>
          by_cases c1 : kd = 3
          · have d1 : (kd == 3) = true := by simp [c1]
            have C1 := hid c1
            clear c1
            by_cases c2 : xa = id
            · have d2 : (xa == id) = true := by simp [c2]
              have C2 := hid c2
              clear c2
              by_cases c3 : 0 ≤ id
              · have d3 : decide (0 ≤ id) = true := by simp [c3]
                go_wp2_with fail
                go_meet
                exact ⟨congrArg Value.bool (decide_eq_true (p := kd = 3 ∧ xa = id ∧ 0 ≤ id) ⟨C1.out, C2.out, c3⟩).symm, rfl⟩
              · first
                | (exfalso; omega)
                | (have d3 : decide (0 ≤ id) = false := by (simp; omega)
                   have C3 := hid c3
                   clear c3
                   go_wp2_with fail
                   go_meet
                   exact ⟨congrArg Value.bool (decide_eq_false (p := kd = 3 ∧ xa = id ∧ 0 ≤ id) fun h => by have := C3.out; omega).symm, rfl⟩)
            · have d2 : (xa == id) = false := by simp [c2]
              go_wp2_with fail
              go_meet
              exact ⟨congrArg Value.bool (decide_eq_false (p := kd = 3 ∧ xa = id ∧ 0 ≤ id) fun h => c2 h.2.1).symm, rfl⟩
          · have d1 : (kd == 3) = false := by simp [c1]
            go_wp2_with fail
            go_meet
            exact ⟨congrArg Value.bool (decide_eq_false (p := kd = 3 ∧ xa = id ∧ 0 ≤ id) fun h => c1 h.1).symm, rfl⟩
        case rest =>
          obtain ⟨rfl, hwc⟩ := hcut
          subst hwc
          by_cases hfr : kd = 3 ∧ xa = id ∧ 0 ≤ id
          · rw [decide_eq_true hfr]
            clear hfr y0 y1 y2 y3 y4 y5 y6 y7
            go_wp2_with fail
            go_roundw
            case rel => exact ⟨k + 1, id, ez, by omega, rfl, rfl, by go_num, by go_num, HI6.out.next.same ⟨fun _ => by omega, fun _ => by omega⟩⟩
            case measure => simp [intOf]; omega
          · rw [decide_eq_false hfr]
            have HFR := hid hfr
            clear hfr
            by_cases hok : Cmd.OK ⟨o, k, kd, xa, xb, xc2, xd, xe⟩
            · obtain ⟨s5, hs5⟩ : ∃ s5, s5 = encC ⟨o, k, kd, xa, xb, xc2, xd, xe⟩ := ⟨_, rfl⟩
              have hc7 : Hid (Calls Tryz.prog 7 #[.agg #[.int .i64 o, .int .i64 k, .int .i64 kd, .int .i64 xa, .int .i64 xb, .int .i64 xc2, .int .i64 xd, .int .i64 xe]] wc fun e w' => e = .returned (.tuple #[.string s5, .int .i64 0]) ∧ Below wc.heap.size wc w') := by
                rw [hs5]
                exact renc_ok ⟨o, k, kd, xa, xb, xc2, xd, xe⟩ hok HIN.out wc
              have HS5 := hid hs5
              have HOK := hid hok
              clear hs5 hok
              go_wp2_with fail
              refine hc7.out.mono ?_
              rintro e0 z2 ⟨rfl, hb2⟩
              have hc9 := (HI6.out.below hb2).other (by omega) o kd xa xb xc2 xd xe HNE.out HOK.out HIN.out (by have := HFR.out; omega)
              rw [← HS5.out] at hc9
              have HC9 := hid hc9
              clear hc9 hb2 hc7 HS5 y0 y1 y2 y3 y4 y5 y6 y7 HI6
              go_wp2_with fail
              refine HC9.out.mono ?_
              rintro e0 z3 ⟨⟨s6, rfl⟩, hI3⟩
              have HI3 := hid (hI3.same (O' := hf < k + 1) ⟨fun _ => by omega, fun _ => by omega⟩)
              clear hI3 HC9
              go_wp2_with fail
              go_roundw
              case rel => exact ⟨k + 1, id, ez, by omega, rfl, rfl, by go_num, by go_num, HI3⟩
              case measure => simp [intOf]; omega
            · have hc7 : Hid (Calls Tryz.prog 7 #[.agg #[.int .i64 o, .int .i64 k, .int .i64 kd, .int .i64 xa, .int .i64 xb, .int .i64 xc2, .int .i64 xd, .int .i64 xe]] wc fun e w' => e = .returned (.tuple #[.string ⟨#[]⟩, .int .i64 1]) ∧ Below wc.heap.size wc w') := renc_bad ⟨o, k, kd, xa, xb, xc2, xd, xe⟩ hok wc
              clear hok
              go_wp2_with fail
              refine hc7.out.mono ?_
              rintro e0 z2 ⟨rfl, hb2⟩
              have HC9 := hid (HI6.out.below hb2).other_none
              clear hb2 hc7 y0 y1 y2 y3 y4 y5 y6 y7 HI6
              go_wp2_with fail
              refine HC9.out.mono ?_
              rintro e0 z3 ⟨⟨s6, rfl⟩, hI3⟩
              have HI3 := hid (hI3.same (O' := hf < k + 1) ⟨fun _ => by omega, fun _ => by omega⟩)
              clear hI3 HC9
              go_wp2_with fail
              go_roundw
              case rel => exact ⟨k + 1, id, ez, by omega, rfl, rfl, by go_num, by go_num, HI3⟩
              case measure => simp [intOf]; omega
end Go.Proofs.YtopbojifllnckaaGreatDoor
namespace Go.Proofs.YtopbojifllnckaaGreatDoor
open Go.RowKit
attribute [local irreducible] wpQuiet
set_option maxRecDepth 100000 in
set_option maxHeartbeats 1600000 in
theorem fences_walk (client : Int) {A : Option Addr} {len cap : Nat} {w : World} (h : ∃ l : List Cmd, l.length = len ∧ CmdsAt w w.heap.size A l) :
    Calls Tryz.prog 3 #[.slice A len cap, .int .i64 client] w fun e w' => e = .returned (.bool true) ∧ Below w.heap.size w w' := by
  by_cases hg : len ≤ 40 ∧ 0 ≤ client ∧ client < 16
  · exact fences_in client hg h
  have hcA := hid (awake_any w)
  by_cases h1 : len ≤ 40
  · have h40 : decide ((40 : Int) < (len : Int)) = false := by simp; omega
    by_cases h2 : 0 ≤ client
    · have h41 : decide (client < 0) = false := by simp; omega
      have h42 : decide ((16 : Int) ≤ client) = true := by simp; omega
      clear hg
      go_enter Tryz.func3, Tryz.ntmps3
      go_wp2_with fail
      refine hcA.out.mono ?_
      rintro e w' ⟨rfl, hb⟩
      have HB := hid hb
      clear hb
      go_wp2_with fail
      go_ret
      exact ⟨rfl, HB.out⟩
    · have h41 : decide (client < 0) = true := by simp; omega
      clear hg
      go_enter Tryz.func3, Tryz.ntmps3
      go_wp2_with fail
      refine hcA.out.mono ?_
      rintro e w' ⟨rfl, hb⟩
      have HB := hid hb
      clear hb
      go_wp2_with fail
      go_ret
      exact ⟨rfl, HB.out⟩
  · have h40 : decide ((40 : Int) < (len : Int)) = true := by simp; omega
    clear hg
    go_enter Tryz.func3, Tryz.ntmps3
    go_wp2_with fail
    refine hcA.out.mono ?_
    rintro e w' ⟨rfl, hb⟩
    have HB := hid hb
    clear hb
    go_wp2_with fail
    go_ret
    exact ⟨rfl, HB.out⟩
end Go.Proofs.YtopbojifllnckaaGreatDoor
