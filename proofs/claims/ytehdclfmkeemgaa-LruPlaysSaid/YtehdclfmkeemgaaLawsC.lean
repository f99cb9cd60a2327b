/- LruPlays: anything done to any cache: each answer, all keys in order, how many bytes: the walk of the law, for every input. -/
import Derived.Test.YtehdclfmkeemgaaPlay
namespace Go.Proofs.Ytehdclfmkeemgaa
open Go.RowKit
attribute [local irreducible] wpQuiet
attribute [local go_sem high] run_mxI run_mnI

theorem PlayRel.next {w wr : World} {br bx M k : Nat} {S : Nat → Prop} {A : Option Addr} {c : Nat} {L K : List Ent} (h : PlayRel w wr br bx M k S A c L K) : PlayRel w wr br bx M (k + 1) S A c L K := by
  obtain ⟨n, hn, hc⟩ := h.cache
  exact ⟨⟨n, by omega, hc⟩, h.box, h.ref, h.nbx, h.nrow, h.below, h.hbx⟩

set_option maxRecDepth 100000 in
set_option maxHeartbeats 4000000 in
theorem plays_walk (m : Int) {A : Option Addr} {len cap : Nat} (w : World) (h : ∃ l : List Deed, l.length = len ∧ len ≤ maxLen ∧ DeedsAt w w.heap.size A l) :
    Calls Try.prog 3 #[.int .i64 m, .slice A len cap] w fun e w' => e = .returned (.bool true) ∧ Below w.heap.size w w' := by
  obtain ⟨l, rfl, hmax, hd⟩ := h
  unfold maxLen at hmax
  have HD := hid hd
  clear hd
  obtain ⟨M, hM, hM2⟩ := mn_nat m
  have HM := hid hM
  clear hM
  by_cases hfew : (decide (l.length ≤ 80) && l.all fun d => decide (d.text.size ≤ 70000)) = true
  · have hl : l.length ≤ 80 := by simp at hfew; exact hfew.1
    have HF := hid hfew
    clear hfew hmax
    go_enter Try.func3, Try.ntmps3
    go_wp2_with fail
    refine (few_any HD (by omega)).mono ?_
    rintro e w1 ⟨rfl, rfl⟩
    rw [HF.out]
    go_wp2_with fail
    refine (new_c HM.out).mono ?_
    rintro e w1 ⟨br, S1, rfl, h1, hb⟩
    have C1 := hid h1
    have B1 := hid hb
    clear h1 hb
    go_wp2_with fail
    refine (refnew_any HM.out).mono ?_
    rintro e w2 ⟨rfl, hb⟩
    have B2 := hid hb
    clear hb
    go_wp2_with fail
    have R0 : PlayRel w (w2.alloc (.cells #[.int .i64 M, .slice none 0 0] 29)) br w2.heap.size M 0 S1 none 0 [] [] := by
      have hc2 := C1.out.below B2.out
      exact ⟨⟨0, Nat.le_refl _, hc2.below ((Below.refl _ _).alloc (Nat.le_refl _) _)⟩, Blk.new _ _ _, ⟨Holds.nil_ _ _ _, by simp, fun ad had => by cases had⟩, fun hs => by have := (hc2.lt _ hs).2; omega, fun ad had => (by cases had), (B1.out.trans (B2.out.mono B1.out.size)).alloc (by have := B1.out.size; have := B2.out.size; omega) _, by have := B1.out.size; have := B2.out.size; omega⟩
    have HR0 := hid R0
    clear R0
    obtain ⟨bx, hbx⟩ : ∃ bx, bx = w2.heap.size := ⟨_, rfl⟩
    rw [← hbx] at HR0 ⊢
    clear hbx
    go_loopw [7] (fun i wr => ∃ (k : Nat) (S : Nat → Prop) (A' : Option Addr) (c' : Nat) (L : List Ent), k ≤ l.length ∧ i = .int .i64 k ∧ Hid (PlayRel w wr br bx M k S A' c' L L)) (fun i _ => l.length - (intOf i).toNat)
    case atStart => exact ⟨0, S1, none, 0, [], by omega, rfl, HR0⟩
    case round =>
      obtain ⟨k, S, A', c', L, hk, rfl, R2⟩ := hrel
      by_cases hkl : k < l.length
      · obtain ⟨ad, rfl, hb, hc⟩ := (HD.out.below R2.out.below).2 (by omega)
        obtain ⟨g0, g1, g2⟩ := (hc k hkl)
        obtain ⟨d, hd⟩ : ∃ d, d = l.getD k default := ⟨_, rfl⟩
        rw [← hd] at g0 g1 g2
        have hmem : d ∈ l := by rw [hd, List.getD_eq_getElem?_getD, List.getElem?_eq_getElem hkl]; exact List.getElem_mem hkl
        have hwf := HD.out.1 d hmem
        have hsz : d.text.size ≤ 70000 := by
          have := HF.out
          simp only [Bool.and_eq_true, List.all_eq_true, decide_eq_true_eq] at this
          exact this.2 d hmem
        obtain ⟨nC, hnC, hCC⟩ := R2.out.cache
        obtain ⟨hnd, _, htot, hlen⟩ := hCC.lists
        have HND := hid hnd
        have hD0 : PlayD w (wr.alloc (.cells #[.int .i64 d.kind, .int .i64 d.n, .string d.text] 32)) br bx M k S A' c' L L wr.heap.size #[.int .i64 d.kind, .int .i64 d.n, .string d.text] := ⟨R2.out.alloc _, Blk.new _ _ _, fun hs => by have := R2.out.slt _ hs; omega⟩
        have D0 := hid hD0
        clear hD0 hc hd hb hmem hnd hCC
        go_upto_block 2 with fail
        obtain ⟨wd, hwd⟩ : ∃ wd, wd = wr.alloc (.cells #[.int .i64 d.kind, .int .i64 d.n, .string d.text] 32) := ⟨_, rfl⟩
        obtain ⟨bd, hbd⟩ : ∃ bd, bd = wr.heap.size := ⟨_, rfl⟩
        rw [← hwd, ← hbd] at D0
        rw [← hwd, ← hbd]
        clear hwd hbd g0 g1 g2
        go_cut [8] (fun v8 wc => v8 = .bool true ∧ ∃ S3 A3 c3 L3, PlayRel w wc br bx M (k + 1) S3 A3 c3 L3 L3)
        case first =>
          have e0 := D0.out.e0
          have e1 := D0.out.e1
          have d0 := D0.out.d0
          have d1 := D0.out.d1
          have d2 := D0.out.d2
          by_cases h0 : d.kind = 0
          · have hk0 : (d.kind == 0) = true := by simp [h0]
            clear h0
            go_wp2_with fail
            refine (refput_any (g := 0) (hid D0.out.rel.ref) rfl (by omega) HND.out d.n d.text (by omega) hM2 htot).mono ?_
            rintro e w3 ⟨A4, c4, Ao, co, rfl, hr, hi, hN, hNo, hb⟩
            obtain ⟨outs, houts⟩ : ∃ outs, outs = (putL M L d.n d.text 0).2 := ⟨_, rfl⟩
            rw [← houts] at hi ⊢
            have HOU := hid houts
            have HI := hid hi
            have HNO := hid hNo
            have hol : outs.length ≤ 1000 := by rw [houts]; have := putL_outs M L d.n d.text 0; omega
            clear houts hi hNo
            obtain ⟨M4, hM4⟩ : ∃ M4, M4 = (putL M L d.n d.text 0).1 := ⟨_, rfl⟩
            rw [← hM4] at hr ⊢
            have HM4 := hid hM4
            have HR4 := hid hr
            have D3 := hid (D0.out.below_ hb)
            have HF4 := hid (D0.out.rel.far hN)
            clear hM4 hr hb hN e0 e1 d0 d1 d2
            have D5 := hid ((D3.out.alloc (.cells #[.int .i64 M, .slice A4 M4.length c4] 29)).set_ (HR4.out.below ((Below.refl _ _).alloc (Nat.le_refl _) _)) HF4.out)
            have e0 := fun o => (D3.out.alloc o).e0
            have e1 := fun o => (D3.out.alloc o).e1
            have d0 := fun o => (D3.out.alloc o).d0
            have d1 := fun o => (D3.out.alloc o).d1
            have d2 := fun o => (D3.out.alloc o).d2
            have f0 := fun o => (D3.out.alloc o).rel.box.frozen 0
            have f1 := fun o => (D3.out.alloc o).rel.box.frozen 1
            have n1 : bd ≠ bx := D3.out.ne
            obtain ⟨n5, hn5, hC5⟩ := D5.out.rel.cache
            have HC5 := hid hC5
            clear hC5
            go_wp2_with fail
            refine (put_c HC5 hwf hM2 (by omega) _ (by omega)).mono ?_
            rintro e w6 ⟨g, Ap, cp, rfl, hg, hi6, hs⟩
            obtain ⟨q1, q2, q3⟩ := putL_ghost M L d.n d.text 0 g
            obtain ⟨S6, hP6, ho6⟩ := D5.out.rel.step hs (by omega) HC5.out (by rw [HM4.out]; exact q1) (by rw [HM4.out]; exact q2)
            have P6 := hid hP6
            rw [← q3, ← HOU.out] at hi6 ⊢
            have hne : ∀ ad, Ao = some ad → ¬ S ad.block ∧ ad.block ≠ bx := fun ad had => by
              rcases HNO.out ad had with ⟨a, ha, _⟩ | hge
              · cases ha
              · exact ⟨fun hs' => by have := D0.out.rel.slt _ hs'; omega, fun e' => by have := D0.out.rel.box.lt; omega⟩
            have hI5 : IntsAt ((((w3.alloc (.cells #[.int .i64 M, .slice A4 M4.length c4] 29)).setCell ⟨bx, 0, none⟩ (.int .i64 M)).setCell ⟨bx, 1, none⟩ (.slice A4 M4.length c4))) w3.heap.size Ao outs := by
              have h1 := HI.out.below ((Below.refl _ _).alloc (Nat.le_refl _) (.cells #[.int .i64 M, .slice A4 M4.length c4] 29))
              have ho : Only (fun k => k = bx) (w3.alloc (.cells #[.int .i64 M, .slice A4 M4.length c4] 29)) ((((w3.alloc (.cells #[.int .i64 M, .slice A4 M4.length c4] 29)).setCell ⟨bx, 0, none⟩ (.int .i64 M)).setCell ⟨bx, 1, none⟩ (.slice A4 M4.length c4))) := ((Only.refl (fun k => k = bx) _).setCell (p := ⟨bx, 0, none⟩) (.inl rfl) _).setCell (p := ⟨bx, 1, none⟩) (.inl rfl) _
              exact h1.only ho (by simp) (fun ad had => (hne ad had).2)
            have hI6 := hid (hI5.only ho6 (by simp [World.setCell]) (fun ad had => (hne ad had).1))
            have HI6 := hid hi6
            clear hi6 hI5 hne hP6 ho6 hs q1 q2 q3 hg
            go_wp2_with fail
            refine (ints_same HI6 rfl hI6 rfl (by unfold maxLen; omega)).mono ?_
            rintro e w7 ⟨rfl, j, rfl⟩
            go_wp2_with fail
            go_meet
            case rel => exact ⟨rfl, _, _, _, _, P6.out.drewN j⟩
          · have hk0 : (d.kind == 0) = false := by simp [h0]
            clear h0
            by_cases h1 : d.kind = 1
            · have hk1 : (d.kind == 1) = true := by simp [h1]
              clear h1
              go_wp2_with fail
              refine (refget_any (hid D0.out.rel.ref) rfl (by omega) HND.out d.n).mono ?_
              rintro e w3 ⟨A4, c4, rfl, hr, hN, hb⟩
              obtain ⟨M4, hM4⟩ : ∃ M4, M4 = getL L d.n := ⟨_, rfl⟩
              rw [← hM4] at hr ⊢
              have HM4 := hid hM4
              have HR4 := hid hr
              have D3 := hid (D0.out.below_ hb)
              have HF4 := hid (D0.out.rel.far hN)
              clear hM4 hr hb hN e0 e1 d0 d1 d2
              have D5 := hid ((D3.out.alloc (.cells #[.int .i64 M, .slice A4 M4.length c4] 29)).set_ (HR4.out.below ((Below.refl _ _).alloc (Nat.le_refl _) _)) HF4.out)
              have e0 := fun o => (D3.out.alloc o).e0
              have e1 := fun o => (D3.out.alloc o).e1
              have d0 := fun o => (D3.out.alloc o).d0
              have d1 := fun o => (D3.out.alloc o).d1
              have d2 := fun o => (D3.out.alloc o).d2
              have f0 := fun o => (D3.out.alloc o).rel.box.frozen 0
              have f1 := fun o => (D3.out.alloc o).rel.box.frozen 1
              have n1 : bd ≠ bx := D3.out.ne
              obtain ⟨n5, hn5, hC5⟩ := D5.out.rel.cache
              have HC5 := hid hC5
              clear hC5
              go_wp2_with fail
              refine (get_c HC5 hwf (by omega)).mono ?_
              rintro e w6 ⟨rfl, hs⟩
              obtain ⟨S6, hP6, ho6⟩ := D5.out.rel.step hs (by omega) HC5.out (by rw [HM4.out]) (by rw [HM4.out])
              have P6 := hid hP6
              clear hP6 ho6 hs
              go_wp2_with fail
              go_meet
              case rel => exact ⟨rfl, _, _, _, _, P6.out⟩
            · have hk1 : (d.kind == 1) = false := by simp [h1]
              clear h1
              by_cases h2 : d.kind = 2
              · have hk2 : (d.kind == 2) = true := by simp [h2]
                clear h2
                go_wp2_with fail
                refine (refpin_any (hid D0.out.rel.ref) rfl (by omega) HND.out d.n true).mono ?_
                rintro e w3 ⟨A4, c4, rfl, hr, hN, hb⟩
                obtain ⟨M4, hM4⟩ : ∃ M4, M4 = setP L d.n true := ⟨_, rfl⟩
                rw [← hM4] at hr ⊢
                have HM4 := hid hM4
                have HR4 := hid hr
                have D3 := hid (D0.out.below_ hb)
                have HF4 := hid (D0.out.rel.far hN)
                clear hM4 hr hb hN e0 e1 d0 d1 d2
                have D5 := hid ((D3.out.alloc (.cells #[.int .i64 M, .slice A4 M4.length c4] 29)).set_ (HR4.out.below ((Below.refl _ _).alloc (Nat.le_refl _) _)) HF4.out)
                have e0 := fun o => (D3.out.alloc o).e0
                have e1 := fun o => (D3.out.alloc o).e1
                have d0 := fun o => (D3.out.alloc o).d0
                have d1 := fun o => (D3.out.alloc o).d1
                have d2 := fun o => (D3.out.alloc o).d2
                have f0 := fun o => (D3.out.alloc o).rel.box.frozen 0
                have f1 := fun o => (D3.out.alloc o).rel.box.frozen 1
                have n1 : bd ≠ bx := D3.out.ne
                obtain ⟨n5, hn5, hC5⟩ := D5.out.rel.cache
                have HC5 := hid hC5
                clear hC5
                go_wp2_with fail
                refine (pin_c HC5 true hwf).mono ?_
                rintro e w6 ⟨rfl, hs⟩
                obtain ⟨S6, hP6, ho6⟩ := D5.out.rel.step hs (by omega) HC5.out (by rw [HM4.out]) (by rw [HM4.out])
                have P6 := hid hP6
                clear hP6 ho6 hs
                go_wp2_with fail
                go_meet
                case rel => exact ⟨rfl, _, _, _, _, P6.out⟩
              · have hk2 : (d.kind == 2) = false := by simp [h2]
                clear h2
                by_cases h3 : d.kind = 3
                · have hk3 : (d.kind == 3) = true := by simp [h3]
                  clear h3
                  go_wp2_with fail
                  refine (refpin_any (hid D0.out.rel.ref) rfl (by omega) HND.out d.n false).mono ?_
                  rintro e w3 ⟨A4, c4, rfl, hr, hN, hb⟩
                  obtain ⟨M4, hM4⟩ : ∃ M4, M4 = setP L d.n false := ⟨_, rfl⟩
                  rw [← hM4] at hr ⊢
                  have HM4 := hid hM4
                  have HR4 := hid hr
                  have D3 := hid (D0.out.below_ hb)
                  have HF4 := hid (D0.out.rel.far hN)
                  clear hM4 hr hb hN e0 e1 d0 d1 d2
                  have D5 := hid ((D3.out.alloc (.cells #[.int .i64 M, .slice A4 M4.length c4] 29)).set_ (HR4.out.below ((Below.refl _ _).alloc (Nat.le_refl _) _)) HF4.out)
                  have e0 := fun o => (D3.out.alloc o).e0
                  have e1 := fun o => (D3.out.alloc o).e1
                  have d0 := fun o => (D3.out.alloc o).d0
                  have d1 := fun o => (D3.out.alloc o).d1
                  have d2 := fun o => (D3.out.alloc o).d2
                  have f0 := fun o => (D3.out.alloc o).rel.box.frozen 0
                  have f1 := fun o => (D3.out.alloc o).rel.box.frozen 1
                  have n1 : bd ≠ bx := D3.out.ne
                  obtain ⟨n5, hn5, hC5⟩ := D5.out.rel.cache
                  have HC5 := hid hC5
                  clear hC5
                  go_wp2_with fail
                  refine (pin_c HC5 false hwf).mono ?_
                  rintro e w6 ⟨rfl, hs⟩
                  obtain ⟨S6, hP6, ho6⟩ := D5.out.rel.step hs (by omega) HC5.out (by rw [HM4.out]) (by rw [HM4.out])
                  have P6 := hid hP6
                  clear hP6 ho6 hs
                  go_wp2_with fail
                  go_meet
                  case rel => exact ⟨rfl, _, _, _, _, P6.out⟩
                · have hk3 : (d.kind == 3) = false := by simp [h3]
                  clear h3
                  by_cases h4 : d.kind = 4
                  · have hk4 : (d.kind == 4) = true := by simp [h4]
                    clear h4
                    go_wp2_with fail
                    refine (refdrop_any (hid D0.out.rel.ref) rfl (by omega) HND.out d.n).mono ?_
                    rintro e w3 ⟨A4, c4, rfl, hr, hN, hb⟩
                    obtain ⟨M4, hM4⟩ : ∃ M4, M4 = goneL L d.n := ⟨_, rfl⟩
                    rw [← hM4] at hr ⊢
                    have HM4 := hid hM4
                    have HR4 := hid hr
                    have D3 := hid (D0.out.below_ hb)
                    have HF4 := hid (D0.out.rel.far hN)
                    clear hM4 hr hb hN e0 e1 d0 d1 d2
                    have D5 := hid ((D3.out.alloc (.cells #[.int .i64 M, .slice A4 M4.length c4] 29)).set_ (HR4.out.below ((Below.refl _ _).alloc (Nat.le_refl _) _)) HF4.out)
                    have e0 := fun o => (D3.out.alloc o).e0
                    have e1 := fun o => (D3.out.alloc o).e1
                    have d0 := fun o => (D3.out.alloc o).d0
                    have d1 := fun o => (D3.out.alloc o).d1
                    have d2 := fun o => (D3.out.alloc o).d2
                    have f0 := fun o => (D3.out.alloc o).rel.box.frozen 0
                    have f1 := fun o => (D3.out.alloc o).rel.box.frozen 1
                    have n1 : bd ≠ bx := D3.out.ne
                    obtain ⟨n5, hn5, hC5⟩ := D5.out.rel.cache
                    have HC5 := hid hC5
                    clear hC5
                    go_wp2_with fail
                    refine (drop_c HC5 hwf hM2).mono ?_
                    rintro e w6 ⟨rfl, hs⟩
                    obtain ⟨S6, hP6, ho6⟩ := D5.out.rel.step hs (by omega) HC5.out (by rw [HM4.out]) (by rw [HM4.out])
                    have P6 := hid hP6
                    clear hP6 ho6 hs
                    go_wp2_with fail
                    go_meet
                    case rel => exact ⟨rfl, _, _, _, _, P6.out⟩
                  · have hk4 : (d.kind == 4) = false := by simp [h4]
                    clear h4
                    go_wp2_with fail
                    go_meet
                    case rel => exact ⟨rfl, _, _, _, _, D0.out.rel.next⟩
        case rest =>
          obtain ⟨rfl, S3, A3, c3, L3, hrel⟩ := hcut
          have R3 := hid hrel
          clear hrel
          obtain ⟨n3, hn3, hC3⟩ := R3.out.cache
          have HC3 := hid hC3
          have htot3 := hC3.lists.2.2.1
          have hl3 : L3.length ≤ 1000 := by have := hC3.lists.2.2.2; omega
          have HKL := hid (show (keysL L3).length = L3.length by simp [keysL])
          have e0 : wc.cell? ⟨bx, 0, none⟩ = some (.int .i64 M) := by rw [R3.out.box.cell]; rfl
          have e1 : wc.cell? ⟨bx, 1, none⟩ = some (.slice A3 L3.length c3) := by rw [R3.out.box.cell]; rfl
          clear hC3
          go_wp2_with fail
          go_region_held3 (fun w' => w'.cell? ⟨bx, 0, none⟩ = some (.int .i64 M) ∧ w'.cell? ⟨bx, 1, none⟩ = some (.slice A3 L3.length c3)) (first | exact ⟨e0, e1⟩ | exact ⟨e2, e3⟩ | exact ⟨e4, e5⟩ | exact ⟨e6, e7⟩) (first | (go_at_call 20; refine (keys_c (hid (CacheAt.keep HC3.out (fun _ _ => by rfl))) (by omega)).mono ?_; rintro e w8 ⟨A8, c8, rfl, hi8, hb⟩; have R9 := hid ((R3.out.drewN _).below_ hb); have I8 := hid hi8; have e2 : w8.cell? ⟨bx, 0, none⟩ = some (.int .i64 M) := (by rw [R9.out.box.cell]; rfl); have e3 : w8.cell? ⟨bx, 1, none⟩ = some (.slice A3 L3.length c3) := (by rw [R9.out.box.cell]; rfl); clear hi8 hb) | (go_at_call 21; refine (refkeys_any (hid (RefAt.same R9.out.ref (by rfl)).1) rfl hl3).mono ?_; rintro e w9 ⟨A9, c9, rfl, hi9, hb⟩; have R10 := hid (R9.out.below_ hb); have I9 := hid hi9; have I8b := hid (I8.out.below hb); have e4 : w9.cell? ⟨bx, 0, none⟩ = some (.int .i64 M) := (by rw [R10.out.box.cell]; rfl); have e5 : w9.cell? ⟨bx, 1, none⟩ = some (.slice A3 L3.length c3) := (by rw [R10.out.box.cell]; rfl); clear hi9 hb) | (go_at_call 12; refine (ints_same I8b HKL.out I9 HKL.out (by unfold maxLen; omega)).mono ?_; rintro e w10 ⟨rfl, q, rfl⟩) | (go_at_call 22; refine (bytes_c (hid (CacheAt.keep (R10.out.cache.choose_spec.2) (fun _ _ => by rfl)))).mono ?_; rintro e w' ⟨rfl, rfl⟩) | (go_at_call 23; refine (sum_any (hid (RefAt.same R10.out.ref (by rfl)).1) rfl hl3 (by omega)).mono ?_; rintro e w11 ⟨rfl, hb⟩; have R11 := hid ((R10.out.drewN _).below_ hb); have e6 : w11.cell? ⟨bx, 0, none⟩ = some (.int .i64 M) := (by rw [R11.out.box.cell]; rfl); have e7 : w11.cell? ⟨bx, 1, none⟩ = some (.slice A3 L3.length c3) := (by rw [R11.out.box.cell]; rfl); clear hb))
          go_wp2_with fail
          go_roundw
          case rel => exact ⟨k + 1, S3, A3, c3, L3, by omega, by go_num, R11⟩
          case measure => simp [intOf]; omega
      · obtain rfl : k = l.length := by omega
        go_wp2_with fail
        refine (awake_any _).mono ?_
        rintro e w6 ⟨rfl, hb⟩
        have B6 := hid hb
        clear hb
        go_wp2_with fail
        go_ret
        exact ⟨rfl, R2.out.below.trans (B6.out.mono R2.out.below.size)⟩
  · have hfew' : (decide (l.length ≤ 80) && l.all fun d => decide (d.text.size ≤ 70000)) = false := by simpa using hfew
    have HF := hid hfew'
    clear hfew hfew'
    go_enter Try.func3, Try.ntmps3
    go_wp2_with fail
    refine (few_any HD hmax).mono ?_
    rintro e w1 ⟨rfl, rfl⟩
    rw [HF.out]
    go_wp2_with fail
    refine (awake_any _).mono ?_
    rintro e w6 ⟨rfl, hb⟩
    have B6 := hid hb
    clear hb
    go_wp2_with fail
    go_ret
    exact ⟨rfl, B6.out⟩
end Go.Proofs.Ytehdclfmkeemgaa
