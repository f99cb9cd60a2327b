/- BitmapPlays: anything done to any map, against the reference: the walk of the law, for every input. -/
import Derived.Test.YtafndflddlieiaaDoorTwo
import Derived.Deep.DeepCutAuto
import Derived.Deep.CutBlock
namespace Go.Proofs.YtafndflddlieiaaDoor
open Go.RowKit
attribute [local irreducible] wpQuiet
attribute [local go_sem high] run_mxI run_mnI

set_option maxRecDepth 100000 in
set_option maxHeartbeats 2000000 in
theorem plays_walk (m : Int) {A : Option Addr} {len cap : Nat} {w : World} (hT : Hid (TabIs w)) (h : ∃ l : List Deed, l.length = len ∧ len ≤ maxLen ∧ DeedsAt w w.heap.size A l) :
    Calls Tryd.prog 4 #[.int .i64 m, .slice A len cap] w fun e w' => e = .returned (.bool true) ∧ Below w.heap.size w w' := by
  obtain ⟨l, rfl, hmax, hd⟩ := h
  unfold maxLen at hmax
  have HD := hid hd
  clear hd
  have ht0 := hT.out.lt
  obtain ⟨n, hN, hn⟩ := mn_nat m
  have HN := hid hN
  clear hN
  by_cases hl : l.length ≤ 60
  · go_enter Tryd.func4, Tryd.ntmps4
    go_wp2_with fail
    refine (new_any HN.out).mono ?_
    rintro e w1 ⟨rfl, hm, hb⟩
    have M1 := hid hm
    have B1 := hid hb
    clear hm hb
    go_wp2_with fail
    refine (rnew_any HN.out hn).mono ?_
    rintro e w2 ⟨rfl, hh, hb⟩
    have R0 := hid (show PlayB w w2 n (fun _ => 0#64) (some ⟨w1.heap.size, 0, none⟩) (fun _ => false) from ⟨Blk.below M1.out hb M1.out.lt, hh, B1.out.trans (hb.mono B1.out.size)⟩)
    clear hh hb
    obtain ⟨A0, hA0⟩ : ∃ A0, A0 = (some ⟨w1.heap.size, 0, none⟩ : Option Addr) := ⟨_, rfl⟩
    rw [← hA0] at R0 ⊢
    clear hA0
    go_wp2_with fail
    go_loopw [6, 7] (fun v6 v7 wr => ∃ (k : Nat) (W : Nat → BitVec 64) (f : Nat → Bool) (A' : Option Addr) (c' : Nat), k ≤ l.length ∧ v6 = .slice A' n c' ∧ v7 = .int .i64 k ∧ Hid (Same n W f ∧ PlayB w wr n W A' f)) (fun _ v7 _ => l.length - (intOf v7).toNat)
    case atStart => exact ⟨0, _, _, _, _, by omega, rfl, rfl, Same.start, R0.out⟩
    case round =>
      obtain ⟨k, W, f, A', c', hk, rfl, rfl, hI⟩ := hrel
      by_cases hkl : k < l.length
      · obtain ⟨ad, rfl, hb, hc⟩ := (HD.out.below hI.out.2.below).2 (by omega)
        obtain ⟨g0, g1, g2⟩ := (hc k hkl)
        obtain ⟨d, hd⟩ : ∃ d, d = l.getD k default := ⟨_, rfl⟩
        rw [← hd] at g0 g1 g2
        have HDk := hid hd
        have D0 := hid (show PlayB w (wr.alloc (.cells #[.int .i64 d.kind, .int .i64 d.n, .int .i64 d.len] 28)) n W A' f from hI.out.2.on ((Below.refl _ _).alloc (Nat.le_refl _) _))
        have X0 := hid (Blk.new wr 28 #[.int .i64 d.kind, .int .i64 d.n, .int .i64 d.len])
        have hne := hI.out.2.map.lt
        clear hc hd hb
        go_upto_block 2 with fail
        obtain ⟨wd, hwd⟩ : ∃ wd, wd = wr.alloc (.cells #[.int .i64 d.kind, .int .i64 d.n, .int .i64 d.len] 28) := ⟨_, rfl⟩
        obtain ⟨bd, hbd⟩ : ∃ bd, bd = wr.heap.size := ⟨_, rfl⟩
        rw [← hwd] at D0 X0
        rw [← hwd]
        rw [← hbd] at X0 hne
        rw [← hbd]
        clear hwd hbd g0 g1 g2
        go_cut [6, 8] (fun v6 v8 wc => v8 = .bool true ∧ ∃ A3 c3 W3 f3, v6 = .slice A3 n c3 ∧ Same n W3 f3 ∧ PlayB w wc n W3 A3 f3)
        case first =>
          have d0 : wd.cell? ⟨bd, 0, none⟩ = some (.int .i64 d.kind) := by rw [X0.out.cell]; rfl
          have d1 : wd.cell? ⟨bd, 1, none⟩ = some (.int .i64 d.n) := by rw [X0.out.cell]; rfl
          have d2 : wd.cell? ⟨bd, 2, none⟩ = some (.int .i64 d.len) := by rw [X0.out.cell]; rfl
          have T0 := hid (hT.out.below D0.out.below ht0)
          by_cases h0 : d.kind = 0
          · have hk0 : (d.kind == 0) = true := by simp [h0]
            clear h0
            obtain ⟨f1, hS1, hr1⟩ := set_two hI.out.1 hn d.n true
            have HS1 := hid hS1
            have HR1 := hid hr1
            clear hS1 hr1
            go_wp2_with fail
            refine (HR1.out _ _ _ _ D0.out.deed).mono ?_
            rintro e w3 ⟨A4, c4, rfl, hr⟩
            have D3 := hid (D0.out.refs hr)
            have X3 := hid (Blk.below X0.out hr.2 X0.out.lt)
            have T3 := hid (hT.out.below D3.out.below ht0)
            clear hr d0 d1 d2
            have d0 : w3.cell? ⟨bd, 0, none⟩ = some (.int .i64 d.kind) := by rw [X3.out.cell]; rfl
            have d1 : w3.cell? ⟨bd, 1, none⟩ = some (.int .i64 d.n) := by rw [X3.out.cell]; rfl
            have d2 : w3.cell? ⟨bd, 2, none⟩ = some (.int .i64 d.len) := by rw [X3.out.cell]; rfl
            go_wp2_with fail
            refine (set_any (hid D3.out.map) hn d.n true).mono ?_
            rintro e w6 ⟨rfl, hm, ho⟩
            have D5 := hid (D3.out.maps hm ho)
            clear hm ho
            go_wp2_with fail
            go_meet
            case rel => exact ⟨rfl, _, _, _, _, rfl, HS1.out, D5.out⟩
          · have hk0 : (d.kind == 0) = false := by simp [h0]
            clear h0
            by_cases h1 : d.kind = 1
            · have hk1 : (d.kind == 1) = true := by simp [h1]
              clear h1
              obtain ⟨f1, hS1, hr1⟩ := set_two hI.out.1 hn d.n false
              have HS1 := hid hS1
              have HR1 := hid hr1
              clear hS1 hr1
              go_wp2_with fail
              refine (HR1.out _ _ _ _ D0.out.deed).mono ?_
              rintro e w3 ⟨A4, c4, rfl, hr⟩
              have D3 := hid (D0.out.refs hr)
              have X3 := hid (Blk.below X0.out hr.2 X0.out.lt)
              have T3 := hid (hT.out.below D3.out.below ht0)
              clear hr d0 d1 d2
              have d0 : w3.cell? ⟨bd, 0, none⟩ = some (.int .i64 d.kind) := by rw [X3.out.cell]; rfl
              have d1 : w3.cell? ⟨bd, 1, none⟩ = some (.int .i64 d.n) := by rw [X3.out.cell]; rfl
              have d2 : w3.cell? ⟨bd, 2, none⟩ = some (.int .i64 d.len) := by rw [X3.out.cell]; rfl
              go_wp2_with fail
              refine (set_any (hid D3.out.map) hn d.n false).mono ?_
              rintro e w6 ⟨rfl, hm, ho⟩
              have D5 := hid (D3.out.maps hm ho)
              clear hm ho
              go_wp2_with fail
              go_meet
              case rel => exact ⟨rfl, _, _, _, _, rfl, HS1.out, D5.out⟩
            · have hk1 : (d.kind == 1) = false := by simp [h1]
              clear h1
              by_cases h2 : d.kind = 2
              · have hk2 : (d.kind == 2) = true := by simp [h2]
                clear h2
                obtain ⟨a1, e1, W1, f1, hS1, hr1, hm1⟩ := take_two hI.out.1 hn d.n
                have HS1 := hid hS1
                have HR1 := hid hr1
                have HM1 := hid hm1
                clear hS1 hr1 hm1
                go_wp2_with fail
                refine (HR1.out _ _ _ _ D0.out.deed).mono ?_
                rintro e w3 ⟨A4, c4, rfl, hr⟩
                have D3 := hid (D0.out.refs hr)
                have X3 := hid (Blk.below X0.out hr.2 X0.out.lt)
                have T3 := hid (hT.out.below D3.out.below ht0)
                clear hr d0 d1 d2
                have d0 : w3.cell? ⟨bd, 0, none⟩ = some (.int .i64 d.kind) := by rw [X3.out.cell]; rfl
                have d1 : w3.cell? ⟨bd, 1, none⟩ = some (.int .i64 d.n) := by rw [X3.out.cell]; rfl
                have d2 : w3.cell? ⟨bd, 2, none⟩ = some (.int .i64 d.len) := by rw [X3.out.cell]; rfl
                go_wp2_with fail
                refine (HM1.out _ _ (hid D3.out.map) T3).mono ?_
                rintro e w6 ⟨rfl, hm, ho⟩
                have D5 := hid (D3.out.maps hm ho)
                clear hm ho
                go_wp2_with fail
                go_meet
                case rel => exact ⟨rfl, _, _, _, _, rfl, HS1.out, D5.out⟩
              · have hk2 : (d.kind == 2) = false := by simp [h2]
                clear h2
                by_cases h3 : d.kind = 3
                · have hk3 : (d.kind == 3) = true := by simp [h3]
                  clear h3
                  obtain ⟨e1, W1, f1, hS1, hr1, hm1⟩ := free_two hI.out.1 hn d.n d.len
                  have HS1 := hid hS1
                  have HR1 := hid hr1
                  have HM1 := hid hm1
                  clear hS1 hr1 hm1
                  go_wp2_with fail
                  refine (HR1.out _ _ _ _ D0.out.deed).mono ?_
                  rintro e w3 ⟨A4, c4, rfl, hr⟩
                  have D3 := hid (D0.out.refs hr)
                  have X3 := hid (Blk.below X0.out hr.2 X0.out.lt)
                  have T3 := hid (hT.out.below D3.out.below ht0)
                  clear hr d0 d1 d2
                  have d0 : w3.cell? ⟨bd, 0, none⟩ = some (.int .i64 d.kind) := by rw [X3.out.cell]; rfl
                  have d1 : w3.cell? ⟨bd, 1, none⟩ = some (.int .i64 d.n) := by rw [X3.out.cell]; rfl
                  have d2 : w3.cell? ⟨bd, 2, none⟩ = some (.int .i64 d.len) := by rw [X3.out.cell]; rfl
                  go_wp2_with fail
                  refine (HM1.out _ _ (hid D3.out.map) T3).mono ?_
                  rintro e w6 ⟨rfl, hm, ho⟩
                  have D5 := hid (D3.out.maps hm ho)
                  clear hm ho
                  go_wp2_with fail
                  go_meet
                  case rel => exact ⟨rfl, _, _, _, _, rfl, HS1.out, D5.out⟩
                · have hk3 : (d.kind == 3) = false := by simp [h3]
                  clear h3
                  go_wp2_with fail
                  go_meet
                  case rel => exact ⟨rfl, _, _, _, _, rfl, hI.out.1, D0.out⟩
        case rest =>
          obtain ⟨rfl, A3, c3, W3, f3, rfl, hS3, hP3⟩ := hcut
          have P3 := hid hP3
          have S3 := hid hS3
          clear hS3 hP3 D0 X0 hI
          have hcl := hid (show ∀ v, Below w.heap.size w v → v.cell? ⟨(ad.add (k * 3)).block, (ad.add (k * 3)).off + 1, none⟩ = some (.int .i64 d.n) ∧ v.cell? ⟨(ad.add (k * 3)).block, (ad.add (k * 3)).off + 2, none⟩ = some (.int .i64 d.len) from fun v hb => by
            obtain ⟨ad2, hA2, hb2, hc2⟩ := (HD.out.below hb).2 (by omega)
            obtain rfl := Option.some.inj hA2
            obtain ⟨-, g1, g2⟩ := (hc2 k hkl)
            rw [← HDk.out] at g1 g2
            exact ⟨g1, g2⟩)
          obtain ⟨g1, g2⟩ := hcl.out wc P3.out.below
          obtain ⟨R, hR⟩ : ∃ R, R = findR d.len (rowsF (isP W3 false) (isP W3 true) n 0) := ⟨_, rfl⟩
          have hf1 := hid (fun (v : World) (hm : Hid (MapIs v w.heap.size n W3)) (hT : Hid (TabIs v)) => find_any hm hT hn d.len)
          have hf2 := hid (fun (v : World) (B : Nat) (A : Option Addr) (c : Nat) (h : RefDeed n f3 v A B) => rfind_any (c := c) h.1 h.2 hn d.len (p := isP W3 false) (q := isP W3 true) S3.out.isP_ (isP_not W3 false) rfl)
          rw [← hR] at hf1 hf2
          obtain ⟨G, hG⟩ : ∃ G, G = (hasB n d.n && f3 d.n.toNat) := ⟨_, rfl⟩
          have hg1 := hid (fun (v : World) (hm : Hid (MapIs v w.heap.size n W3)) => get_two S3.out hn hm d.n)
          have hg2 := hid (fun (v : World) (B : Nat) (A : Option Addr) (c : Nat) (h : Hid (Holds v B A (bcs f3 n))) => rget_any (c := c) h d.n)
          rw [← hG] at hg1 hg2
          clear hR hG
          go_wp2_with fail
          go_region_held3 (fun w' => w'.cell? ⟨(ad.add (k * 3)).block, (ad.add (k * 3)).off + 1, none⟩ = some (.int .i64 d.n) ∧ w'.cell? ⟨(ad.add (k * 3)).block, (ad.add (k * 3)).off + 2, none⟩ = some (.int .i64 d.len)) (first | exact ⟨g1, g2⟩ | exact ⟨e1, e2⟩ | exact ⟨e3, e4⟩) (first | (go_at_call 14; refine (hg1.out _ (hid (P3.out.drewN _).map)).mono ?_; rintro e w' ⟨rfl, rfl⟩) | (go_at_call 21; refine (hg2.out _ _ _ _ (hid (P3.out.drewN _).row)).mono ?_; rintro e w' ⟨rfl, rfl⟩) | (go_at_call 16; refine (hf1.out _ (hid (P3.out.drewN _).map) (hid (hT.out.below (P3.out.drewN _).below ht0))).mono ?_; rintro e w8 ⟨rfl, hb⟩; have P4 := hid ((P3.out.drewN _).on hb); have e1 := (hcl.out w8 P4.out.below).1; have e2 := (hcl.out w8 P4.out.below).2; clear hb) | (go_at_call 22; refine (hf2.out _ _ _ _ P4.out.deed).mono ?_; rintro e w9 ⟨rfl, hb⟩; have P5 := hid (P4.out.on hb); have e3 := (hcl.out w9 P5.out.below).1; have e4 := (hcl.out w9 P5.out.below).2; clear hb))
          go_wp2_with fail
          go_roundw
          case rel => exact ⟨k + 1, W3, f3, A3, c3, by omega, rfl, by go_num, hid ⟨S3.out, P5.out⟩⟩
          case measure => simp [intOf]; omega
      · obtain rfl : k = l.length := by omega
        have P := hid hI.out.2
        have S := hid hI.out.1
        clear hI
        have T0 := hid (hT.out.below P.out.below ht0)
        have hlt := P.out.map.lt
        obtain ⟨c, hc⟩ : ∃ c, c = cntF f n := ⟨_, rfl⟩
        have hct := hid (fun (v : World) (hm : Hid (MapIs v w.heap.size n W)) => count_f hm hn S.out.1 S.out.2)
        have hrct := hid (fun (v : World) (B : Nat) (A : Option Addr) (c : Nat) (hm : Hid (Holds v B A (bcs f n))) => rcount_any (c := c) hm hn)
        rw [← hc] at hct hrct
        clear hc
        obtain ⟨t, ht⟩ : ∃ t, t = (⟨(rtextL n f).toArray⟩ : ByteArray) := ⟨_, rfl⟩
        have htx := hid (fun (v : World) (hm : Hid (MapIs v w.heap.size n W)) => text_any hm hn)
        have hrtx := hid (fun (v : World) (B : Nat) (A : Option Addr) (c : Nat) (hm : RefDeed n f v A B) => rtext_any (c := c) hm.1 hm.2 hn)
        rw [S.out.text, ← ht] at htx
        rw [← ht] at hrtx
        clear ht
        go_wp2_with fail
        refine (hct.out _ (hid P.out.map)).mono ?_
        rintro e w1 ⟨rfl, rfl⟩
        go_wp2_with fail
        refine (hrct.out _ _ _ _ (hid P.out.row)).mono ?_
        rintro e w1 ⟨rfl, rfl⟩
        go_wp2_with fail
        refine (htx.out _ (hid P.out.map)).mono ?_
        rintro e w1 ⟨rfl, hb⟩
        have P1 := hid (P.out.on hb)
        clear hb
        go_wp2_with fail
        refine (hrtx.out _ _ _ _ P1.out.deed).mono ?_
        rintro e w2 ⟨rfl, hb⟩
        have P2 := hid (P1.out.on hb)
        clear hb
        have hF := hid S.out.1
        obtain ⟨p, hp⟩ : ∃ p, p = isP W true := ⟨_, rfl⟩
        obtain ⟨p', hp'⟩ : ∃ p, p = isP W (!true) := ⟨_, rfl⟩
        have HP1 := hid hp
        have HP2 := hid hp'
        obtain ⟨L, hL⟩ : ∃ L, L = rowsF p p' n 0 := ⟨_, rfl⟩
        obtain ⟨M, hM⟩ : ∃ M, M = rowsF p' p n 0 := ⟨_, rfl⟩
        have hpq : ∀ y, p' y = !p y := by intro y; rw [hp, hp']; exact isP_not W true y
        have hLn := rows_le (Nat.zero_le n) hpq hL
        have hMn := rows_le (Nat.zero_le n) (fun y => by rw [hpq]; simp) hM
        have HL := hid hL
        have HM := hid hM
        clear hp hp' hL hM
        go_wp2_with fail
        refine (runs_p (hid P2.out.map) (hid (hT.out.below P2.out.below ht0)) hn true HP1.out HP2.out HL.out).mono ?_
        rintro e w3 ⟨A3, c3, rfl, hh, hb⟩
        have P3 := hid (P2.out.on hb)
        have G3 := hid hh
        clear hh hb
        go_wp2_with fail
        refine (rruns_p P3.out.deed.1 P3.out.deed.2 hn hF.out true HP1.out HP2.out HL.out).mono ?_
        rintro e w4 ⟨A4, c4, rfl, hh, hb⟩
        have P4 := hid (P3.out.on hb)
        have G3' := hid (G3.out.below hb)
        have G4 := hid hh
        clear hh hb
        go_wp2_with fail
        refine (same_eq G3' G4 (by omega)).mono ?_
        rintro e w5 ⟨rfl, q, rfl⟩
        have P5 := hid (P4.out.drewN q)
        go_wp2_with fail
        refine (runs_p (hid P5.out.map) (hid (hT.out.below P5.out.below ht0)) hn false HP2.out HP1.out HM.out).mono ?_
        rintro e w6 ⟨A6, c6, rfl, hh, hb⟩
        have P6 := hid (P5.out.on hb)
        have G6 := hid hh
        clear hh hb
        go_wp2_with fail
        refine (rruns_p P6.out.deed.1 P6.out.deed.2 hn hF.out false HP2.out HP1.out HM.out).mono ?_
        rintro e w7 ⟨A7, c7, rfl, hh, hb⟩
        have P7 := hid (P6.out.on hb)
        have G6' := hid (G6.out.below hb)
        have G7 := hid hh
        clear hh hb
        go_wp2_with fail
        refine (same_eq G6' G7 (by omega)).mono ?_
        rintro e w8 ⟨rfl, q2, rfl⟩
        have P8 := hid (P7.out.drewN q2)
        go_wp2_with fail
        refine (awake_any (hid (hT.out.below P8.out.below ht0))).mono ?_
        rintro e w9 ⟨rfl, hb⟩
        have B9 := hid (P8.out.below.trans (hb.mono P8.out.below.size))
        clear hb
        go_wp2_with fail
        go_ret
        exact ⟨rfl, B9.out⟩
  · go_enter Tryd.func4, Tryd.ntmps4
    go_wp2_with fail
    refine (awake_any hT).mono ?_
    rintro e w1 ⟨rfl, hb⟩
    have B1 := hid hb
    clear hb
    go_wp2_with fail
    go_ret
    exact ⟨rfl, B1.out⟩
end Go.Proofs.YtafndflddlieiaaDoor
