/- LruBound: the walk of the law, for every input. -/
import Derived.Test.YtehdclfmkeemgaaBound
namespace Go.Proofs.Ytehdclfmkeemgaa
open Go.RowKit
attribute [local irreducible] wpQuiet
attribute [local go_sem high] run_mxI run_mnI

theorem in_no {A : Option Addr} {n c B : Nat} {xs : List Int} {w : World} (x : Int) (h : Hid (IntsAt w B A xs)) (hn : xs.length = n) (hl : n ≤ 1000) (hx : Hid (x ∉ xs)) :
    Calls Try.prog 25 #[.slice A n c, .int .i64 x] w fun e w' => e = .returned (.bool false) ∧ w' = w :=
  (in_any x h hn hl).mono fun e w' ⟨he, hw⟩ => ⟨by rw [he]; simp [hx.out], hw.symm⟩

structure BRel (w wr : World) (br M k : Nat) (v : Value) (S : Nat → Prop) (L : List Ent) (ps : List Int) : Prop where
  cache : ∃ n, n ≤ k ∧ CacheAt wr w.heap.size br M n S L
  row : wr.ownsRow w.heap.size 3 1 v ps.length (nums ps)
  far : ∀ q, v.ownBlock = some q → ¬ S q
  below : Below w.heap.size w wr
  pins : PinsIn L ps
  few : ps.length ≤ k

theorem own_if {w w' : World} {base e size n : Nat} {v : Value} {xs : List Value} (h : w.ownsRow base e size v n xs) (hk : ∀ q, v.ownBlock = some q → w'.heap[q]? = w.heap[q]?) : w'.ownsRow base e size v n xs := by
  refine ⟨h.1, ?_⟩
  rcases h.2 with hn | ⟨g, cap, cur, rfl, hb, hg, r⟩
  · exact .inl hn
  · exact .inr ⟨g, cap, cur, rfl, hb, (hk g rfl).trans hg, r⟩
theorem own_lt {w : World} {B e size n : Nat} {v : Value} {xs : List Value} (h : w.ownsRow B e size v n xs) : ∀ g, v.ownBlock = some g → g < w.heap.size := fun g hg => (h.lt g hg).2

set_option maxRecDepth 100000 in
set_option maxHeartbeats 4000000 in
theorem bound_walk (m : Int) {A : Option Addr} {len cap : Nat} (w : World) (h : ∃ l : List Deed, l.length = len ∧ len ≤ maxLen ∧ DeedsAt w w.heap.size A l) :
    Calls Try.prog 4 #[.int .i64 m, .slice A len cap] w fun e w' => e = .returned (.bool true) ∧ Below w.heap.size w w' := by
  obtain ⟨l, rfl, hmax, hd⟩ := h
  unfold maxLen at hmax
  have HD := hid hd
  clear hd
  obtain ⟨M, hM, hM2⟩ := mn_nat m
  have HM := hid hM
  clear hM
  by_cases hfew : (decide (l.length ≤ 80) && l.all fun d => decide (d.text.size ≤ 70000)) = true
  · have hl : l.length ≤ 80 := by simp at hfew; exact hfew.1
    have HF := hid hfew
    clear hfew hmax
    go_enter Try.func4, Try.ntmps4
    go_wp2_with fail
    refine (few_any HD (by omega)).mono ?_
    rintro e w1 ⟨rfl, rfl⟩
    rw [HF.out]
    go_wp2_with fail
    refine (new_c HM.out).mono ?_
    rintro e w1 ⟨br, S1, rfl, h1, hb⟩
    have C1 := hid h1
    have B1 := hid hb
    clear h1 hb
    go_wp2_with fail
    go_loopw [6, 7] (fun v i wr => ∃ (k : Nat) (S : Nat → Prop) (L : List Ent) (ps : List Int), k ≤ l.length ∧ i = .int .i64 k ∧ Hid (BRel w wr br M k v S L ps)) (fun _ i _ => l.length - (intOf i).toNat)
    case atStart => exact ⟨0, S1, [], [], by omega, rfl, ⟨0, Nat.le_refl _, C1.out⟩, World.ownsRow_nil _ _ _ _, fun q hq => (by cases hq), B1.out, fun y hy => (by cases hy), Nat.le_refl _⟩
    case round =>
      obtain ⟨k, S, L, ps, hk, rfl, hR⟩ := hrel
      obtain ⟨wo, rfl⟩ : ∃ wo : World, wo = wr := ⟨_, rfl⟩
      obtain ⟨A6, c6, hv⟩ := own_form hR.out.row
      subst hv
      by_cases hkl : k < l.length
      · obtain ⟨ad, rfl, hb, hc⟩ := (HD.out.below hR.out.below).2 (by omega)
        obtain ⟨g0, g1, g2⟩ := hc k hkl
        obtain ⟨d, hd⟩ : ∃ d, d = l.getD k default := ⟨_, rfl⟩
        rw [← hd] at g0 g1 g2
        have hmem : d ∈ l := by rw [hd, List.getD_eq_getElem?_getD, List.getElem?_eq_getElem hkl]; exact List.getElem_mem hkl
        have hwf := HD.out.1 d hmem
        have hsz : d.text.size ≤ 70000 := by
          have := HF.out
          simp only [Bool.and_eq_true, List.all_eq_true, decide_eq_true_eq] at this
          exact this.2 d hmem
        obtain ⟨n, hnk, hCn⟩ := hR.out.cache
        have hpl := hR.out.few
        have hCb := hid (hCn.below ((Below.refl _ _).alloc (Nat.le_refl _) (.cells #[.int .i64 d.kind, .int .i64 d.n, .string d.text] 32)))
        have hRow := hid (hR.out.row.alloc (.cells #[.int .i64 d.kind, .int .i64 d.n, .string d.text] 32))
        have hBB := hid (hR.out.below.alloc hR.out.below.size (.cells #[.int .i64 d.kind, .int .i64 d.n, .string d.text] 32))
        have hbox := hid (Blk.new wo 32 #[.int .i64 d.kind, .int .i64 d.n, .string d.text])
        have hnS : Hid (¬ S wo.heap.size) := hid fun hs => by have := (hCn.lt _ hs).2; omega
        clear hd hc hb hmem hCn
        by_cases h0 : d.kind = 0
        · have hk0 : (d.kind == 0) = true := by simp [h0]
          clear h0
          go_wp2_with fail
          obtain ⟨wb, hwb⟩ : ∃ wb, wb = wo.alloc (.cells #[.int .i64 d.kind, .int .i64 d.n, .string d.text] 32) := ⟨_, rfl⟩
          have hbs : wo.heap.size < wb.heap.size := by rw [hwb]; simp
          rw [← hwb] at hCb hRow hBB hbox ⊢
          clear hwb
          have hI := hid (IntsAt.of_holds (Holds.of_own hRow.out))
          refine (without_any d.n hI (Nat.le_refl _) rfl (by omega)).mono ?_
          rintro e w2 ⟨A2, c2, rfl, hown2, hb2⟩
          have hC2 := hid (hCb.out.below hb2)
          have hB2 := hid (hBB.out.trans (hb2.mono hBB.out.size))
          have hbox2 := hid (hbox.out.below hb2 hbox.out.lt)
          have O2 := hid (own_lower hown2 hBB.out.size)
          have F2 : Hid (∀ q, (Value.slice A2 (outL ps d.n).length c2).ownBlock = some q → ¬ S q) := hid fun q hq hs => by
            have h1 := own_ge hown2 q hq
            have h2 := (hCb.out.lt q hs).2
            omega
          have hlt2 : Hid (∀ q, (Value.slice A2 (outL ps d.n).length c2).ownBlock = some q → q < w2.heap.size) := hid (own_lt hown2)
          have hs2 := hb2.size
          have hol := outL_len ps d.n
          have b0 : w2.cell? ⟨wo.heap.size, 0, none⟩ = some (.int .i64 d.kind) := by rw [hbox2.out.cell]; rfl
          have b1 : w2.cell? ⟨wo.heap.size, 1, none⟩ = some (.int .i64 d.n) := by rw [hbox2.out.cell]; rfl
          have b2 : w2.cell? ⟨wo.heap.size, 2, none⟩ = some (.string d.text) := by rw [hbox2.out.cell]; rfl
          clear hown2 hb2
          go_wp2_with fail
          refine (put_c hC2 hwf hM2 (by omega) _ (by omega)).mono ?_
          rintro e w3 ⟨g, Ao, co, rfl, _, hi, hs⟩
          have hB3 := hid (hB2.out.trans (hs.below hC2.out))
          obtain ⟨S3, h3, hS3, ho3⟩ := hs
          have C3 := hid h3
          have O3 := hid (own_if O2.out fun q hq => ho3.block q (hlt2.out q hq) (F2.out q hq))
          have F3 : Hid (∀ q, (Value.slice A2 (outL ps d.n).length c2).ownBlock = some q → ¬ S3 q) := hid fun q hq h3 => by
            rcases hS3 q h3 with h | h
            · exact F2.out q hq h
            · have := hlt2.out q hq; omega
          have hbox3 := hid (hbox2.out.only ho3 hnS.out)
          clear h3 hS3 ho3 b0 b1 b2
          obtain ⟨outs, houts⟩ : ∃ outs, outs = (putL M L d.n d.text g).2 := ⟨_, rfl⟩
          have hne : Hid (∀ y ∈ outs, y ∉ outL ps d.n ∧ y ≠ d.n) := hid (by rw [houts]; exact hR.out.pins.outs hC2.out.lists.1)
          have hlo : outs.length ≤ 1000 := by
            rw [houts]
            have h1 := putL_outs M L d.n d.text g
            have h2 := hC2.out.lists.2.2.2
            omega
          rw [← houts] at hi ⊢
          have HI := hid hi
          clear hi houts
          have hIp := hid (IntsAt.of_holds (Holds.of_own O3.out))
          go_wp2_with fail
          go_loopw [10] (fun i wr => ∃ j q : Nat, j ≤ outs.length ∧ i = .int .i64 j ∧ Hid (wr = w3.drewN q)) (fun i _ => outs.length - (intOf i).toNat)
          case atStart => exact ⟨0, 0, by omega, rfl, rfl⟩
          case round =>
            obtain ⟨j, q, hj, rfl, hq⟩ := hrel
            have hbox4 : Hid (Blk wr wo.heap.size 32 #[.int .i64 d.kind, .int .i64 d.n, .string d.text]) := by rw [hq.out]; exact hid (hbox3.out.drewN q)
            have hI4 : Hid (IntsAt wr w3.heap.size Ao outs) := by rw [hq.out]; exact hid (HI.out.drewN q)
            have hIp4 : Hid (IntsAt wr w3.heap.size A2 (outL ps d.n)) := by rw [hq.out]; exact hid (hIp.out.drewN q)
            by_cases hjl : j < outs.length
            · obtain ⟨ao, rfl, _, hco⟩ := hI4.out (by omega)
              have hc1 := hco j hjl
              obtain ⟨y, hy⟩ : ∃ y, y = outs.getD j 0 := ⟨_, rfl⟩
              rw [← hy] at hc1
              have hym : y ∈ outs := by rw [hy, List.getD_eq_getElem?_getD, List.getElem?_eq_getElem hjl]; exact List.getElem_mem hjl
              obtain ⟨hy1, hy2⟩ := hne.out y hym
              have hyb : (y == d.n) = false := by simpa using hy2
              have b1 : wr.cell? ⟨wo.heap.size, 1, none⟩ = some (.int .i64 d.n) := by rw [hbox4.out.cell]; rfl
              have HY1 := hid hy1
              clear hco hy hym hy1 hy2
              go_wp2_with fail
              go_quiet ((go_at_call 25; exact Calls.quiet_of_same (in_no y (hid (hIp4.out.drewN _)) rfl (by omega) HY1)))
              go_wp2_with fail
              go_roundw
              case rel => exact ⟨j + 1, q + nq, by omega, by go_num, hid (by rw [hq.out, World.drewN_drewN])⟩
              case measure => simp [intOf]; omega
            · obtain rfl : j = outs.length := by omega
              have C4 : Hid (CacheAt wr w.heap.size br M (n + 1) S3 (putL M L d.n d.text g).1) := by rw [hq.out]; exact hid (C3.out.drewN q)
              have O4 : Hid (wr.ownsRow w.heap.size 3 1 (.slice A2 (outL ps d.n).length c2) (outL ps d.n).length (nums (outL ps d.n))) := by rw [hq.out]; exact hid (own_if O3.out fun _ _ => rfl)
              have B4 : Hid (Below w.heap.size w wr) := by rw [hq.out]; exact hid (below_drewN hB3.out q)
              have b0 : wr.cell? ⟨wo.heap.size, 0, none⟩ = some (.int .i64 d.kind) := by rw [hbox4.out.cell]; rfl
              have htot : decide (mnI (mxI m 0) 65536 < ((total (putL M L d.n d.text g).1 : Nat) : Int)) = false := by
                rw [HM.out]
                exact decide_eq_false (by have := C4.out.lists.2.2.1; omega)
              go_wp2_with fail
              refine (bytes_c C4).mono ?_
              rintro e w9 ⟨rfl, rfl⟩
              go_wp2_with fail
              go_roundw
              case rel => exact ⟨k + 1, S3, _, outL ps d.n, by omega, by go_num, hid ⟨⟨n + 1, by omega, C4.out⟩, O4.out, F3.out, B4.out, hR.out.pins.put M d.n d.text g, by omega⟩⟩
              case measure => simp [intOf]; omega
        · have hk0 : (d.kind == 0) = false := by simp [h0]
          clear h0
          by_cases hk : d.kind = 2
          · have hk2 : (d.kind == 2) = true := by simp [hk]
            clear hk
            go_wp2_with fail
            obtain ⟨wb, hwb⟩ : ∃ wb, wb = wo.alloc (.cells #[.int .i64 d.kind, .int .i64 d.n, .string d.text] 32) := ⟨_, rfl⟩
            have hbs : wo.heap.size < wb.heap.size := by rw [hwb]; simp
            rw [← hwb] at hCb hRow hBB hbox ⊢
            clear hwb
            have hF6 : Hid (∀ q, (Value.slice A6 ps.length c6).ownBlock = some q → ¬ S q) := hid hR.out.far
            have hlt6 : Hid (∀ q, (Value.slice A6 ps.length c6).ownBlock = some q → q < wb.heap.size) := hid (own_lt hRow.out)
            refine (pin_c hCb true hwf).mono ?_
            obtain ⟨r, hr⟩ : ∃ r, r = (look L d.n).isSome := ⟨_, rfl⟩
            rw [← hr]
            rintro e w3 ⟨rfl, hs⟩
            have hB3 := hid (hBB.out.trans (hs.below hCb.out))
            obtain ⟨S3, h3, hS3, ho3⟩ := hs
            have C3 := hid h3
            have O3 := hid (own_if hRow.out fun q hq => ho3.block q (hlt6.out q hq) (hF6.out q hq))
            have F3 : Hid (∀ q, (Value.slice A6 ps.length c6).ownBlock = some q → ¬ S3 q) := hid fun q hq h3 => by
              rcases hS3 q h3 with h | h
              · exact hF6.out q hq h
              · have := hlt6.out q hq; omega
            have hbox3 := hid (hbox.out.only ho3 hnS.out)
            have hn3 : Hid (¬ S3 wo.heap.size) := hid fun h3 => by
              rcases hS3 _ h3 with h | h
              · exact hnS.out h
              · have := hbox.out.lt; omega
            clear h3 hS3 ho3
            have b0 : w3.cell? ⟨wo.heap.size, 0, none⟩ = some (.int .i64 d.kind) := by rw [hbox3.out.cell]; rfl
            have b1 : w3.cell? ⟨wo.heap.size, 1, none⟩ = some (.int .i64 d.n) := by rw [hbox3.out.cell]; rfl
            have b2 : w3.cell? ⟨wo.heap.size, 2, none⟩ = some (.string d.text) := by rw [hbox3.out.cell]; rfl
            cases r with
            | false =>
              have hsame : Hid (setP L d.n true = L) := hid (setP_not hr.symm)
              clear hr
              have htot : decide (mnI (mxI m 0) 65536 < ((total (setP L d.n true) : Nat) : Int)) = false := by
                rw [HM.out]
                exact decide_eq_false (by have := C3.out.lists.2.2.1; omega)
              go_wp2_with fail
              refine (bytes_c C3).mono ?_
              rintro e w9 ⟨rfl, rfl⟩
              go_wp2_with fail
              go_roundw
              case rel => exact ⟨k + 1, S3, _, ps, by omega, by go_num, hid ⟨⟨n, by omega, C3.out⟩, O3.out, F3.out, hB3.out, by rw [hsame.out]; exact hR.out.pins, by omega⟩⟩
              case measure => simp [intOf]; omega
            | true =>
              have HR := hid hr
              clear hr
              go_wp2_with fail
              have hI4 := hid (IntsAt.of_holds (Holds.of_own O3.out))
              refine (without_any d.n hI4 (Nat.le_refl _) rfl (by omega)).mono ?_
              rintro e w4 ⟨A4, c4, rfl, hown, hb⟩
              have hC4 := hid (C3.out.below hb)
              have hB4 := hid (hB3.out.trans (hb.mono hB3.out.size))
              have hbox4 := hid (hbox3.out.below hb hbox3.out.lt)
              have O4 := hid (own_lower hown hB3.out.size)
              have F4 : Hid (∀ q, (Value.slice A4 (outL ps d.n).length c4).ownBlock = some q → ¬ S3 q) := hid fun q hq hs => by
                have h1 := own_ge hown q hq
                have h2 := (C3.out.lt q hs).2
                omega
              have hlt4 : Hid (∀ q, (Value.slice A4 (outL ps d.n).length c4).ownBlock = some q → q < w4.heap.size) := hid (own_lt hown)
              have hs4 := hb.size
              have hol := outL_len ps d.n
              have b0 : w4.cell? ⟨wo.heap.size, 0, none⟩ = some (.int .i64 d.kind) := by rw [hbox4.out.cell]; rfl
              have b1 : w4.cell? ⟨wo.heap.size, 1, none⟩ = some (.int .i64 d.n) := by rw [hbox4.out.cell]; rfl
              have b2 : w4.cell? ⟨wo.heap.size, 2, none⟩ = some (.string d.text) := by rw [hbox4.out.cell]; rfl
              clear hown hb
              have hsz := hid (show ((nums (outL ps d.n)).length + [Value.int .i64 d.n].length) * 8 ≤ 140737488355328 by rw [nums_length]; simp; omega)
              go_wp2_with (at_builtin; refine wpList_app _ rfl (.tmp 79) (.tmp 82) 33 3 (.int .i64 0) 8 rfl Try.underlying33 info3 rfl (by decide) w.heap.size (.slice A4 (outL ps d.n).length c4) (nums (outL ps d.n)) rfl ?own (w4.alloc (.cells #[.int .i64 d.n] 3)).heap.size (some ⟨w4.heap.size, 0, none⟩) 1 1 [.int .i64 d.n] rfl rfl ?hold ?one hsz.out ?base ?_)
              case own => rw [nums_length]; exact O4.out.alloc _
              case hold => exact Holds.of_blk (Blk.new w4 3 #[.int .i64 d.n]) 0 1 (by simp)
              case one =>
                intro u hu
                simp only [List.mem_singleton] at hu
                subst hu
                rfl
              case base =>
                have := hB4.out.size
                simp
                omega
              intro v5 w5 hown5 hg5 hat5
              have hs45 := hg5.size
              simp at hs45
              have C5 : Hid (CacheAt w5 w.heap.size br M n S3 (setP L d.n true)) := hid (hC4.out.keep fun q hq => (hg5.block q (by have := (hC4.out.lt q hq).2; simp; omega) (fun e' => F4.out q e'.symm hq)).trans (Below.heap_alloc _ _ _ (hC4.out.lt q hq).2))
              have B5 : Hid (Below w.heap.size w w5) := hid ((hB4.out.alloc hB4.out.size _).grown hg5 (by have := hB4.out.size; simp; omega) (fun q hq => own_ge O4.out q hq))
              have F5 : Hid (∀ q, v5.ownBlock = some q → ¬ S3 q) := hid fun q hq hs => by
                rcases hat5 with h1 | h1
                · exact F4.out q (by rw [← h1]; exact hq) hs
                · rw [h1] at hq
                  have h2 := (hC4.out.lt q hs).2
                  have h3 : w4.heap.size + 1 = q := Option.some.inj hq
                  omega
              have O5 : Hid (w5.ownsRow w.heap.size 3 1 v5 (outL ps d.n ++ [d.n]).length (nums (outL ps d.n ++ [d.n]))) := hid (by
                rw [show nums (outL ps d.n ++ [d.n]) = nums (outL ps d.n) ++ [Value.int .i64 d.n] by simp [nums], List.length_append]
                have := hown5
                rw [nums_length] at this
                exact this)
              clear hown5 hg5 hat5 b0 b1 b2
              have htot : decide (mnI (mxI m 0) 65536 < ((total (setP L d.n true) : Nat) : Int)) = false := by
                rw [HM.out]
                exact decide_eq_false (by have := C5.out.lists.2.2.1; omega)
              go_wp2_with fail
              refine (bytes_c C5).mono ?_
              rintro e w9 ⟨rfl, rfl⟩
              go_wp2_with fail
              go_roundw
              case rel => exact ⟨k + 1, S3, _, outL ps d.n ++ [d.n], by omega, by go_num, hid ⟨⟨n, by omega, C5.out⟩, O5.out, F5.out, B5.out, hR.out.pins.on d.n HR.out.symm, by simp; omega⟩⟩
              case measure => simp [intOf]; omega
          · by_cases hk' : d.kind = 3
            · clear hk
              have hk := hk'; clear hk'
              have hk2 : (d.kind == 2) = false := by simp [hk]
              have hk3 : (d.kind == 3) = true := by simp [hk]
              clear hk
              go_wp2_with fail
              obtain ⟨wb, hwb⟩ : ∃ wb, wb = wo.alloc (.cells #[.int .i64 d.kind, .int .i64 d.n, .string d.text] 32) := ⟨_, rfl⟩
              have hbs : wo.heap.size < wb.heap.size := by rw [hwb]; simp
              rw [← hwb] at hCb hRow hBB hbox ⊢
              clear hwb
              have hF6 : Hid (∀ q, (Value.slice A6 ps.length c6).ownBlock = some q → ¬ S q) := hid hR.out.far
              have hlt6 : Hid (∀ q, (Value.slice A6 ps.length c6).ownBlock = some q → q < wb.heap.size) := hid (own_lt hRow.out)
              refine (pin_c hCb false hwf).mono ?_
              obtain ⟨r, hr⟩ : ∃ r, r = (look L d.n).isSome := ⟨_, rfl⟩
              rw [← hr]
              rintro e w3 ⟨rfl, hs⟩
              have hB3 := hid (hBB.out.trans (hs.below hCb.out))
              obtain ⟨S3, h3, hS3, ho3⟩ := hs
              have C3 := hid h3
              have O3 := hid (own_if hRow.out fun q hq => ho3.block q (hlt6.out q hq) (hF6.out q hq))
              have F3 : Hid (∀ q, (Value.slice A6 ps.length c6).ownBlock = some q → ¬ S3 q) := hid fun q hq h3 => by
                rcases hS3 q h3 with h | h
                · exact hF6.out q hq h
                · have := hlt6.out q hq; omega
              have hbox3 := hid (hbox.out.only ho3 hnS.out)
              have hn3 : Hid (¬ S3 wo.heap.size) := hid fun h3 => by
                rcases hS3 _ h3 with h | h
                · exact hnS.out h
                · have := hbox.out.lt; omega
              clear h3 hS3 ho3
              have b0 : w3.cell? ⟨wo.heap.size, 0, none⟩ = some (.int .i64 d.kind) := by rw [hbox3.out.cell]; rfl
              have b1 : w3.cell? ⟨wo.heap.size, 1, none⟩ = some (.int .i64 d.n) := by rw [hbox3.out.cell]; rfl
              have b2 : w3.cell? ⟨wo.heap.size, 2, none⟩ = some (.string d.text) := by rw [hbox3.out.cell]; rfl
              cases r with
              | false =>
                have hsame : Hid (setP L d.n false = L) := hid (setP_not hr.symm)
                clear hr
                have htot : decide (mnI (mxI m 0) 65536 < ((total (setP L d.n false) : Nat) : Int)) = false := by
                  rw [HM.out]
                  exact decide_eq_false (by have := C3.out.lists.2.2.1; omega)
                go_wp2_with fail
                refine (bytes_c C3).mono ?_
                rintro e w9 ⟨rfl, rfl⟩
                go_wp2_with fail
                go_roundw
                case rel => exact ⟨k + 1, S3, _, ps, by omega, by go_num, hid ⟨⟨n, by omega, C3.out⟩, O3.out, F3.out, hB3.out, by rw [hsame.out]; exact hR.out.pins, by omega⟩⟩
                case measure => simp [intOf]; omega
              | true =>
                have HR := hid hr
                clear hr
                go_wp2_with fail
                have hI4 := hid (IntsAt.of_holds (Holds.of_own O3.out))
                refine (without_any d.n hI4 (Nat.le_refl _) rfl (by omega)).mono ?_
                rintro e w4 ⟨A4, c4, rfl, hown, hb⟩
                have hC4 := hid (C3.out.below hb)
                have hB4 := hid (hB3.out.trans (hb.mono hB3.out.size))
                have hbox4 := hid (hbox3.out.below hb hbox3.out.lt)
                have O4 := hid (own_lower hown hB3.out.size)
                have F4 : Hid (∀ q, (Value.slice A4 (outL ps d.n).length c4).ownBlock = some q → ¬ S3 q) := hid fun q hq hs => by
                  have h1 := own_ge hown q hq
                  have h2 := (C3.out.lt q hs).2
                  omega
                have hlt4 : Hid (∀ q, (Value.slice A4 (outL ps d.n).length c4).ownBlock = some q → q < w4.heap.size) := hid (own_lt hown)
                have hs4 := hb.size
                have hol := outL_len ps d.n
                have b0 : w4.cell? ⟨wo.heap.size, 0, none⟩ = some (.int .i64 d.kind) := by rw [hbox4.out.cell]; rfl
                have b1 : w4.cell? ⟨wo.heap.size, 1, none⟩ = some (.int .i64 d.n) := by rw [hbox4.out.cell]; rfl
                have b2 : w4.cell? ⟨wo.heap.size, 2, none⟩ = some (.string d.text) := by rw [hbox4.out.cell]; rfl
                clear hown hb
                have htot : decide (mnI (mxI m 0) 65536 < ((total (setP L d.n false) : Nat) : Int)) = false := by
                  rw [HM.out]
                  exact decide_eq_false (by have := hC4.out.lists.2.2.1; omega)
                go_wp2_with fail
                refine (bytes_c hC4).mono ?_
                rintro e w9 ⟨rfl, rfl⟩
                go_wp2_with fail
                go_roundw
                case rel => exact ⟨k + 1, S3, _, outL ps d.n, by omega, by go_num, hid ⟨⟨n, by omega, hC4.out⟩, O4.out, F4.out, hB4.out, hR.out.pins.off d.n false, by omega⟩⟩
                case measure => simp [intOf]; omega
            · by_cases hk'' : d.kind = 4
              · clear hk hk'
                have hk := hk''; clear hk''
                have hk4 : (d.kind == 4) = true := by simp [hk]
                have hk2 : (d.kind == 2) = false := by simp [hk]
                have hk3 : (d.kind == 3) = false := by simp [hk]
                clear hk
                go_wp2_with fail
                obtain ⟨wb, hwb⟩ : ∃ wb, wb = wo.alloc (.cells #[.int .i64 d.kind, .int .i64 d.n, .string d.text] 32) := ⟨_, rfl⟩
                have hbs : wo.heap.size < wb.heap.size := by rw [hwb]; simp
                rw [← hwb] at hCb hRow hBB hbox ⊢
                clear hwb
                have hI2 := hid (IntsAt.of_holds (Holds.of_own hRow.out))
                refine (without_any d.n hI2 (Nat.le_refl _) rfl (by omega)).mono ?_
                rintro e w2 ⟨A2, c2, rfl, hown, hb⟩
                have hC2 := hid (hCb.out.below hb)
                have hB2 := hid (hBB.out.trans (hb.mono hBB.out.size))
                have hbox2 := hid (hbox.out.below hb hbox.out.lt)
                have O2 := hid (own_lower hown hBB.out.size)
                have F2 : Hid (∀ q, (Value.slice A2 (outL ps d.n).length c2).ownBlock = some q → ¬ S q) := hid fun q hq hs => by
                  have h1 := own_ge hown q hq
                  have h2 := (hCb.out.lt q hs).2
                  omega
                have hlt2 : Hid (∀ q, (Value.slice A2 (outL ps d.n).length c2).ownBlock = some q → q < w2.heap.size) := hid (own_lt hown)
                have hs2 := hb.size
                have hol := outL_len ps d.n
                have b0 : w2.cell? ⟨wo.heap.size, 0, none⟩ = some (.int .i64 d.kind) := by rw [hbox2.out.cell]; rfl
                have b1 : w2.cell? ⟨wo.heap.size, 1, none⟩ = some (.int .i64 d.n) := by rw [hbox2.out.cell]; rfl
                have b2 : w2.cell? ⟨wo.heap.size, 2, none⟩ = some (.string d.text) := by rw [hbox2.out.cell]; rfl
                clear hown hb
                go_wp2_with fail
                refine (drop_c hC2 hwf hM2).mono ?_
                rintro e w3 ⟨rfl, hs⟩
                have hB3 := hid (hB2.out.trans (hs.below hC2.out))
                obtain ⟨S3, h3, hS3, ho3⟩ := hs
                have C3 := hid h3
                have O3 := hid (own_if O2.out fun q hq => ho3.block q (hlt2.out q hq) (F2.out q hq))
                have F3 : Hid (∀ q, (Value.slice A2 (outL ps d.n).length c2).ownBlock = some q → ¬ S3 q) := hid fun q hq h3 => by
                  rcases hS3 q h3 with h | h
                  · exact F2.out q hq h
                  · have := hlt2.out q hq; omega
                have hbox3 := hid (hbox2.out.only ho3 hnS.out)
                have hn3 : Hid (¬ S3 wo.heap.size) := hid fun h3 => by
                  rcases hS3 _ h3 with h | h
                  · exact hnS.out h
                  · have := hbox2.out.lt; omega
                clear h3 hS3 ho3
                clear b0 b1 b2
                have htot : decide (mnI (mxI m 0) 65536 < ((total (goneL L d.n) : Nat) : Int)) = false := by
                  rw [HM.out]
                  exact decide_eq_false (by have := C3.out.lists.2.2.1; omega)
                go_wp2_with fail
                refine (bytes_c C3).mono ?_
                rintro e w9 ⟨rfl, rfl⟩
                go_wp2_with fail
                go_roundw
                case rel => exact ⟨k + 1, S3, _, outL ps d.n, by omega, by go_num, hid ⟨⟨n, by omega, C3.out⟩, O3.out, F3.out, hB3.out, hR.out.pins.gone d.n, by omega⟩⟩
                case measure => simp [intOf]; omega
              · have h2 := hk
                have h3 := hk'
                have h4 := hk''
                clear hk hk' hk''
                have hk4 : (d.kind == 4) = false := by simp [h4]
                have hk2 : (d.kind == 2) = false := by simp [h2]
                have hk3 : (d.kind == 3) = false := by simp [h3]
                clear h2 h3 h4
                have htot : decide (mnI (mxI m 0) 65536 < ((total L : Nat) : Int)) = false := by
                  rw [HM.out]
                  exact decide_eq_false (by have := hCb.out.lists.2.2.1; omega)
                go_wp2_with fail
                obtain ⟨wb, hwb⟩ : ∃ wb, wb = wo.alloc (.cells #[.int .i64 d.kind, .int .i64 d.n, .string d.text] 32) := ⟨_, rfl⟩
                have hbs : wo.heap.size < wb.heap.size := by rw [hwb]; simp
                rw [← hwb] at hCb hRow hBB hbox ⊢
                clear hwb
                refine (bytes_c hCb).mono ?_
                rintro e w9 ⟨rfl, rfl⟩
                go_wp2_with fail
                go_roundw
                case rel => exact ⟨k + 1, S, L, ps, by omega, by go_num, hid ⟨⟨n, by omega, hCb.out⟩, hRow.out, hR.out.far, hBB.out, hR.out.pins, by omega⟩⟩
                case measure => simp [intOf]; omega
      · obtain rfl : k = l.length := by omega
        go_wp2_with fail
        refine (awake_any _).mono ?_
        rintro e w6 ⟨rfl, hb⟩
        have B6 := hid hb
        clear hb
        go_wp2_with fail
        go_ret
        exact ⟨rfl, hR.out.below.trans (B6.out.mono hR.out.below.size)⟩
  · have hfew' : (decide (l.length ≤ 80) && l.all fun d => decide (d.text.size ≤ 70000)) = false := by simpa using hfew
    have HF := hid hfew'
    clear hfew hfew'
    go_enter Try.func4, Try.ntmps4
    go_wp2_with fail
    refine (few_any HD hmax).mono ?_
    rintro e w1 ⟨rfl, rfl⟩
    rw [HF.out]
    go_wp2_with fail
    refine (awake_any _).mono ?_
    rintro e w6 ⟨rfl, hb⟩
    have B6 := hid hb
    clear hb
    go_wp2_with fail
    go_ret
    exact ⟨rfl, B6.out⟩
end Go.Proofs.Ytehdclfmkeemgaa
