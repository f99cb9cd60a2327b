/- manager.New: its parts in memory. A slice of commands that comes in, as a list. The law's steps: plain, over Do's contract. -/
import Derived.Lib.SmallJoins
import Derived.Deep.Strs
import Derived.Test.YtopbojifllnckaaGreatDoorYa
import Derived.Test.YtopbojifllnckaaGreatDoorG35
namespace Go.Proofs.YtopbojifllnckaaGreatDoor
open Go.RowKit
section
variable {E : Env}
theorem concs_cons' {v : AV} {vs : List AV} {l : List Value} (h : concs E (v :: vs) = some l) : ∃ c cs, conc E v = some c ∧ concs E vs = some cs ∧ l = c :: cs := by
  unfold concs at h
  cases hc : conc E v with
  | none => rw [hc] at h; cases h
  | some c =>
    cases hs : concs E vs with
    | none => rw [hc, hs] at h; cases h
    | some cs =>
      rw [hc, hs] at h
      cases h
      exact ⟨c, cs, rfl, rfl, rfl⟩
theorem concs_nil' {l : List Value} (h : concs E [] = some l) : l = [] := by
  unfold concs at h
  cases h
  rfl
theorem conc_ptr' {b o : Nat} {c : Value} (h : conc E (.ptr (some (b, o))) = some c) : ∃ r, E b = some r ∧ c = .pointer (some ⟨r.1, o, none⟩) := by
  unfold conc at h
  cases hb : E b with
  | none => rw [hb] at h; cases h
  | some r => rw [hb] at h; cases h; exact ⟨r, rfl, rfl⟩
theorem conc_map' {b : Nat} {c : Value} (h : conc E (.map (some b)) = some c) : ∃ r, E b = some r ∧ c = .map (some r.1) := by
  unfold conc at h
  cases hb : E b with
  | none => rw [hb] at h; cases h
  | some r => rw [hb] at h; cases h; exact ⟨r, rfl, rfl⟩
theorem conc_slc' {b o n k : Nat} {c : Value} (h : conc E (.slc (some (b, o)) n k true) = some c) : ∃ r, E b = some r ∧ c = .slice (some ⟨r.1, o, none⟩) n k := by
  unfold conc at h
  cases hb : E b with
  | none => rw [hb] at h; cases h
  | some r => rw [hb] at h; cases h; exact ⟨r, rfl, rfl⟩
theorem conc_int' {k : IntKind} {n : Int} {c : Value} (h : conc E (.int k n) = some c) : c = .int k n := by
  unfold conc at h
  cases h
  rfl
theorem conc_bool' {t : Bool} {c : Value} (h : conc E (.bool t) = some c) : c = .bool t := by
  unfold conc at h
  cases h
  rfl
theorem conc_nil' {n k : Nat} {c : Value} (h : conc E (.slc none n k true) = some c) : c = .slice none n k := by
  unfold conc at h
  cases h
  rfl
theorem concs_ints : ∀ (L : List Int) {l : List Value}, concs E (L.map (AV.int .i64 ·)) = some l → l = nums L
  | [], l, h => concs_nil' h
  | n :: L, l, h => by
    obtain ⟨c, cs, h1, h2, rfl⟩ := concs_cons' h
    rw [conc_int' h1, concs_ints L h2]
    rfl
theorem arr_of {cs : Array Value} {l : List Value} (h : cs.toList = l) : cs = l.toArray := by rw [← h]
end
theorem mapNe {w : World} {a b : Nat} {t : TypeId} {cs : Array Value} {es : Array MapEntry} {n : Nat} (h : Blk w a t cs) (k : w.heap[b]? = some (.map es n)) : b ≠ a := fun e => by
  rw [e, h] at k
  cases k
set_option maxRecDepth 100000 in
/-- A new manager: its parts, each in blocks of its own. -/
theorem New_any {w : World} {B q0 q1 : Nat} (h0 : Blk w q0 3 #[.int .i64 0, .int .i64 1, .int .i64 2]) (h1 : Blk w q1 3 #[.int .i64 3, .int .i64 4]) (hne : q0 ≠ q1) (hB0 : B ≤ q0) (hB1 : B ≤ q1) :
    Calls Tryz.prog 6 #[.slice (some ⟨q0, 0, none⟩) 3 3, .slice (some ⟨q1, 0, none⟩) 2 2] w fun e w' => ∃ gm p1 p2 p3 p4 p5 p6 T, e = .returned (.pointer (some ⟨gm, 0, none⟩)) ∧ Mgr B T w' gm p1 p2 p3 p4 p5 p6 [] 1 0 (fun _ => 0) ∧ Below B w w' := by
  have hrun := new_run
  cases hr : newRun with
  | none => rw [hr] at hrun; cases hrun
  | some r =>
    obtain ⟨v, σ⟩ := r
    rw [hr] at hrun
    unfold newRun at hr
    unfold newChk at hrun
    simp only [Bool.and_eq_true] at hrun
    obtain ⟨c0, c1, c2, c3, c4, c5, c6, c7, c8, c9, c10, c11, c12⟩ := hrun
    generalize ptO v = gm at c0 c1 c2 c3 c4 c5 c6 c7 c8 c9 c10 c11 c12
    generalize cellO σ gm 0 = p1 at c1 c2 c3 c4 
    generalize cellO σ gm 1 = p2 at c1 c5
    generalize cellO σ gm 2 = p3 at c1 c6
    generalize cellO σ gm 3 = p4 at c1 c7
    generalize cellO σ gm 4 = p5 at c1 c8 c10 c12
    generalize cellO σ gm 5 = p6 at c1 c9 c11 c12
    generalize cellO σ p1 0 = b1 at c2 c3
    generalize cellO σ p1 1 = b2 at c2 c4
    generalize cellO σ p5 0 = m5 at c8 c10 c12
    generalize cellO σ p6 1 = m6 at c9 c11 c12
    obtain ⟨E, hE⟩ : ∃ E : Env, E = fun b => if b = 0 then some (q0, 0) else if b = 1 then some (q1, 0) else none := ⟨_, rfl⟩
    have e0 : E 0 = some (q0, 0) := by rw [hE]; rfl
    have e1 : E 1 = some (q1, 0) := by rw [hE]; rfl
    have eN : ∀ b r, E b = some r → (b = 0 ∧ r = (q0, 0)) ∨ (b = 1 ∧ r = (q1, 0)) := fun b r hb => by
      rw [hE] at hb
      simp only at hb
      split at hb
      · next h => cases hb; exact .inl ⟨h, rfl⟩
      · split at hb
        · next h => cases hb; exact .inr ⟨h, rfl⟩
        · cases hb
    have hR : Rel Tryz.prog E newSt w := by
      refine ⟨fun b o hb r hr => ?_, fun b b' o o' r r' _ _ hr hr' he => ?_, fun b r hr => ?_, fun b o hb => ?_⟩
      · rcases eN b r hr with ⟨rfl, rfl⟩ | ⟨rfl, rfl⟩
        · have : o = .cells 3 (Tr.put (some (.int .i64 2)) (Tr.put (some (.int .i64 1)) (Tr.put (some (.int .i64 0)) .e 0) 1) 2) 3 none false := by
            have h : newSt.heap.get 0 = some _ := rfl
            exact Option.some.inj (hb.symm.trans h)
          subst this
          refine ⟨_, h0, _, rfl, rfl, fun _ => rfl, fun i v hv => ?_⟩
          match i, hv with
          | 0, hv => cases hv; exact ⟨_, rfl, rfl⟩
          | 1, hv => cases hv; exact ⟨_, rfl, rfl⟩
          | 2, hv => cases hv; exact ⟨_, rfl, rfl⟩
          | i + 3, hv =>
            have h : Nat.blt (i + 3) 3 = false := by
              cases hx : Nat.blt (i + 3) 3 with
              | false => rfl
              | true =>
                have e : (Nat.blt (i + 3) 3 = true) = (i + 3 < 3) := Nat.blt_eq
                have := e.mp hx
                omega
            unfold rdO at hv
            simp only [h, cond_false] at hv
            cases hv
        · have : o = .cells 2 (Tr.put (some (.int .i64 4)) (Tr.put (some (.int .i64 3)) .e 0) 1) 3 none false := by
            have h : newSt.heap.get 1 = some _ := rfl
            exact Option.some.inj (hb.symm.trans h)
          subst this
          refine ⟨_, h1, _, rfl, rfl, fun _ => rfl, fun i v hv => ?_⟩
          match i, hv with
          | 0, hv => cases hv; exact ⟨_, rfl, rfl⟩
          | 1, hv => cases hv; exact ⟨_, rfl, rfl⟩
          | i + 2, hv =>
            have h : Nat.blt (i + 2) 2 = false := by
              cases hx : Nat.blt (i + 2) 2 with
              | false => rfl
              | true =>
                have e : (Nat.blt (i + 2) 2 = true) = (i + 2 < 2) := Nat.blt_eq
                have := e.mp hx
                omega
            unfold rdO at hv
            simp only [h, cond_false] at hv
            cases hv
      · rcases eN b r hr with ⟨rfl, rfl⟩ | ⟨rfl, rfl⟩ <;> rcases eN b' r' hr' with ⟨rfl, rfl⟩ | ⟨rfl, rfl⟩ <;> first | rfl | exact absurd he hne | exact absurd he.symm hne
      · rcases eN b r hr with ⟨rfl, rfl⟩ | ⟨rfl, rfl⟩
        · exact ⟨by decide, h0.lt⟩
        · exact ⟨by decide, h1.lt⟩
      · show b < 2
        unfold newSt at hb
        simp only at hb
        rw [Tr.get_put _ _ _ _ (by decide), Tr.get_put _ _ _ _ (by decide)] at hb
        by_cases q : b = 1
        · omega
        · rw [if_neg q] at hb
          by_cases q' : b = 0
          · omega
          · rw [if_neg q', Tr.get_e] at hb
            cases hb
    have hA : concs E [.slc (some (0, 0)) 3 3 true, .slc (some (1, 0)) 2 2 true] = some [.slice (some ⟨q0, 0, none⟩) 3 3, .slice (some ⟨q1, 0, none⟩) 2 2] := by
      simp only [concs, conc, e0, e1]
      rfl
    refine (top_call 200 6 _ newSt v σ E w _ hr hR hA).2.mono ?_
    rintro e w' ⟨E', c, rfl, hc, hs⟩
    rw [vEq_eq _ _ c0] at hc
    obtain ⟨rg, eg, rfl⟩ := conc_ptr' hc
    have hR' := hs.rel
    obtain ⟨cg, bg, kg, og⟩ := obC_blk hR' eg c1
    obtain ⟨_, _, k1_1, zz1, hg1⟩ := concs_cons' kg
    obtain ⟨_, _, k2_2, zz2, rfl⟩ := concs_cons' zz1
    obtain ⟨_, _, k3_3, zz3, rfl⟩ := concs_cons' zz2
    obtain ⟨_, _, k4_4, zz4, rfl⟩ := concs_cons' zz3
    obtain ⟨_, _, k5_5, zz5, rfl⟩ := concs_cons' zz4
    obtain ⟨_, _, k6_6, zz6, rfl⟩ := concs_cons' zz5
    obtain ⟨_, _, k7_7, zz7, rfl⟩ := concs_cons' zz6
    obtain rfl := concs_nil' zz7
    obtain ⟨r1, e1', rfl⟩ := conc_ptr' k1_1
    obtain ⟨r2, e2', rfl⟩ := conc_ptr' k2_2
    obtain ⟨r3, e3', rfl⟩ := conc_ptr' k3_3
    obtain ⟨r4, e4', rfl⟩ := conc_ptr' k4_4
    obtain ⟨r5, e5', rfl⟩ := conc_ptr' k5_5
    obtain ⟨r6, e6', rfl⟩ := conc_ptr' k6_6
    obtain rfl := conc_int' k7_7
    rw [arr_of hg1] at bg
    obtain ⟨cs1, B1, k1, o1⟩ := obC_blk hR' e1' c2
    obtain ⟨_, _, j1_8, zz8, hh1⟩ := concs_cons' k1
    obtain ⟨_, _, j2_9, zz9, rfl⟩ := concs_cons' zz8
    obtain ⟨_, _, j3_10, zz10, rfl⟩ := concs_cons' zz9
    obtain ⟨_, _, j4_11, zz11, rfl⟩ := concs_cons' zz10
    obtain ⟨_, _, j5_12, zz12, rfl⟩ := concs_cons' zz11
    obtain ⟨_, _, j6_13, zz13, rfl⟩ := concs_cons' zz12
    obtain rfl := concs_nil' zz13
    obtain ⟨s1, es1, rfl⟩ := conc_slc' j1_8
    obtain ⟨s2, es2, rfl⟩ := conc_slc' j2_9
    obtain rfl := conc_int' j3_10
    obtain rfl := conc_int' j4_11
    obtain rfl := conc_bool' j5_12
    obtain rfl := conc_int' j6_13
    rw [arr_of hh1] at B1
    obtain ⟨_, S1, ks1, os1⟩ := obC_blk hR' es1 c3
    rw [arr_of (concs_ints [0, 1, 2] ks1)] at S1
    obtain ⟨_, S2, ks2, os2⟩ := obC_blk hR' es2 c4
    rw [arr_of (concs_ints [3, 4] ks2)] at S2
    obtain ⟨_, B2, k2, o2⟩ := obC_blk hR' e2' c5
    obtain ⟨_, _, j1_14, zz14, hh2⟩ := concs_cons' k2
    obtain ⟨_, _, j2_15, zz15, rfl⟩ := concs_cons' zz14
    obtain rfl := concs_nil' zz15
    obtain rfl := conc_nil' j1_14
    obtain rfl := conc_int' j2_15
    rw [arr_of hh2] at B2
    obtain ⟨cs3, B3, k3, o3⟩ := obC_blk hR' e3' c6
    have hr3 : (List.replicate 1024 (AV.int .i64 0)) = (List.replicate 1024 (0 : Int)).map (AV.int .i64 ·) := by simp
    rw [hr3] at k3
    have hcs3 := concs_ints _ k3
    obtain ⟨_, B4, k4, o4⟩ := obC_blk hR' e4' c7
    obtain ⟨_, _, j1_16, zz16, hh4⟩ := concs_cons' k4
    obtain rfl := concs_nil' zz16
    obtain rfl := conc_nil' j1_16
    rw [arr_of hh4] at B4
    obtain ⟨_, B5, k5, o5⟩ := obC_blk hR' e5' c8
    obtain ⟨_, _, j1_17, zz17, hh5⟩ := concs_cons' k5
    obtain ⟨_, _, j2_18, zz18, rfl⟩ := concs_cons' zz17
    obtain rfl := concs_nil' zz18
    obtain ⟨t5, et5, rfl⟩ := conc_map' j1_17
    obtain rfl := conc_int' j2_18
    rw [arr_of hh5] at B5
    obtain ⟨_, B6, k6, o6⟩ := obC_blk hR' e6' c9
    obtain ⟨_, _, j1_19, zz19, hh6⟩ := concs_cons' k6
    obtain ⟨_, _, j2_20, zz20, rfl⟩ := concs_cons' zz19
    obtain rfl := concs_nil' zz20
    obtain rfl := conc_int' j1_19
    obtain ⟨t6, et6, rfl⟩ := conc_map' j2_20
    rw [arr_of hh6] at B6
    obtain ⟨M5, om5⟩ := obM_map hR' et5 c10
    obtain ⟨M6, om6⟩ := obM_map hR' et6 c11
    have hm56 : t5.1 ≠ t6.1 := fun he => by
      obtain ⟨a5, q5, u5, v5, x5, y5⟩ := om5
      obtain ⟨a6, q6, u6, v6, x6, y6⟩ := om6
      unfold obM at c10 c11
      split at c10
      · next h5 =>
        split at c11
        · next h6 =>
          have := hR'.inj _ _ _ _ _ _ h5 h6 et5 et6 he
          rw [this] at c12
          simp at c12
        · cases c11
      · cases c10
    have low : ∀ c, Rg E' σ c → B ≤ c := fun c hc => by
      rcases hs.own c hc with ⟨b, o, r, hb, hr, rfl⟩ | h
      · rcases eN b r hr with ⟨rfl, rfl⟩ | ⟨rfl, rfl⟩
        · exact hB0
        · exact hB1
      · exact Nat.le_trans (Nat.le_trans hB0 (Nat.le_of_lt h0.lt)) h
    have hbel : Below B w w' := ⟨hs.os, hs.tape, hs.output, hs.size, fun k hk => hs.frame k (Nat.lt_trans (Nat.lt_of_lt_of_le hk hB0) h0.lt) fun ⟨b, o, r, hb, hr, he⟩ => by
      rcases eN b r hr with ⟨rfl, rfl⟩ | ⟨rfl, rfl⟩
      · simp only at he; omega
      · simp only at he; omega⟩
    have n21 := B2.ne_ bg (by decide)
    have n31 := B3.ne_ bg (by decide)
    have n32 := B3.ne_ B2 (by decide)
    have n41 := B4.ne_ bg (by decide)
    have n42 := B4.ne_ B2 (by decide)
    have n43 := B4.ne_ B3 (by decide)
    have n51 := B5.ne_ bg (by decide)
    have n52 := B5.ne_ B2 (by decide)
    have n53 := B5.ne_ B3 (by decide)
    have n54 := B5.ne_ B4 (by decide)
    have n61 := B6.ne_ bg (by decide)
    have n62 := B6.ne_ B2 (by decide)
    have n63 := B6.ne_ B3 (by decide)
    have n64 := B6.ne_ B4 (by decide)
    have n65 := B6.ne_ B5 (by decide)
    have a1 := mapNe bg M5
    have a2 := mapNe B2 M5
    have a3 := mapNe B3 M5
    have a4 := mapNe B4 M5
    have d1 := mapNe bg M6
    have d2 := mapNe B2 M6
    have d3 := mapNe B3 M6
    have d4 := mapNe B4 M6
    have d5 := mapNe B5 M6
    have hx : ∀ z t cs, Blk w' z t cs → (t = 153 ∨ t = 3) → z ≠ rg.1 ∧ z ≠ r2.1 ∧ z ≠ r3.1 ∧ z ≠ r4.1 ∧ z ≠ r5.1 ∧ z ≠ t5.1 ∧ z ≠ r6.1 ∧ z ≠ t6.1 := fun z t cs hz ht => by
      rcases ht with rfl | rfl
      · exact ⟨hz.ne_ bg (by decide), hz.ne_ B2 (by decide), hz.ne_ B3 (by decide), hz.ne_ B4 (by decide), hz.ne_ B5 (by decide), (mapNe hz M5).symm, hz.ne_ B6 (by decide), (mapNe hz M6).symm⟩
      · exact ⟨hz.ne_ bg (by decide), hz.ne_ B2 (by decide), hz.ne_ B3 (by decide), hz.ne_ B4 (by decide), hz.ne_ B5 (by decide), (mapNe hz M5).symm, hz.ne_ B6 (by decide), (mapNe hz M6).symm⟩
    have x1 := hx _ _ _ B1 (.inl rfl)
    have x2 := hx _ _ _ S1 (.inr rfl)
    have x3 := hx _ _ _ S2 (.inr rfl)
    refine ⟨rg.1, r1.1, r2.1, r3.1, r4.1, r5.1, r6.1, fun k => if k = rg.1 then 7 else if k = r2.1 then 2 else if k = r3.1 then 3 else if k = r4.1 then 4 else if k = r5.1 ∨ k = t5.1 then 5 else if k = r6.1 ∨ k = t6.1 then 6 else if k = r1.1 ∨ k = s1.1 ∨ k = s2.1 then 1 else 0, rfl, ?_, hbel⟩
    refine ⟨⟨0, bg⟩, by simp, ?_, ?_, ?_, ?_, ?_, ?_, ?_, by simp⟩
    · refine ⟨s1.1, s2.1, 0, 2, 0, 1, 2, 3, 4, -1, -1, false, B1, S1, S2, by omega, ?_, by omega, ⟨by omega, by omega⟩, ?_, ?_, ?_⟩
      · unfold Sml; omega
      · simp [x1]
      · simp [x2]
      · simp [x3]
    · refine ⟨none, 0, 0, B2, ⟨by simp [rowS], .inl ⟨rfl, rfl⟩⟩, by simp [n21], (fun ad h => by cases h), (fun s h => by cases h)⟩
    · refine ⟨by simp [n31, n32], _, B3, ?_, ?_⟩
      · rw [← Array.length_toList, hcs3, nums_length, List.length_replicate]
      · intro i hi
        refine ⟨0, ?_⟩
        rw [← Array.getElem?_toList, hcs3]
        have hi' : i < 1024 := by rw [← Array.length_toList, hcs3, nums_length, List.length_replicate] at hi; exact hi
        unfold nums
        rw [List.getElem?_map, List.getElem?_replicate, if_pos hi']
        rfl
    · exact ⟨none, 0, 0, B4, by simp [n41, n42, n43], Nat.le_refl _, .inl ⟨rfl, rfl, rfl⟩⟩
    · exact ⟨t5.1, 0, 0, B5, by simp [n51, n52, n53, n54], by simp [a1, a2, a3, a4], Nat.le_refl _, .map [], Go.Joins.ownsMap_empty M5, Go.Maps.isMap_empty⟩
    · refine ⟨t6.1, fun _ => none, B6, by simp [n61, n62, n63, n64, n65, (mapNe B6 M5).symm], by simp [d1, d2, d3, d4, d5, hm56.symm], ⟨.map [], Go.Joins.ownsMap_empty M6, Go.Maps.isMap_empty, fun key hk => ?_⟩, fun k => ⟨none, 0, 0, rfl, by omega, .inl ⟨rfl, rfl, rfl⟩⟩, fun k k' r q n c q' n' c' h => by cases h⟩
      rfl
    · refine ⟨Nat.le_trans (Nat.le_trans hB0 (Nat.le_of_lt h0.lt)) hs.size, fun k hk => ?_⟩
      have hk' : Rg E' σ k := by
        simp only at hk
        by_cases q : k = rg.1
        · rw [q]; exact og
        rw [if_neg q] at hk
        by_cases q : k = r2.1
        · rw [q]; exact o2
        rw [if_neg q] at hk
        by_cases q : k = r3.1
        · rw [q]; exact o3
        rw [if_neg q] at hk
        by_cases q : k = r4.1
        · rw [q]; exact o4
        rw [if_neg q] at hk
        by_cases q : k = r5.1 ∨ k = t5.1
        · rcases q with q | q
          · rw [q]; exact o5
          · rw [q]; exact om5
        rw [if_neg q] at hk
        by_cases q : k = r6.1 ∨ k = t6.1
        · rcases q with q | q
          · rw [q]; exact o6
          · rw [q]; exact om6
        rw [if_neg q] at hk
        by_cases q : k = r1.1 ∨ k = s1.1 ∨ k = s2.1
        · rcases q with q | q | q
          · rw [q]; exact o1
          · rw [q]; exact os1
          · rw [q]; exact os2
        rw [if_neg q] at hk
        exact absurd rfl hk
      obtain ⟨b, o, r, hb, hr, rfl⟩ := hk'
      exact ⟨low _ ⟨b, o, r, hb, hr, rfl⟩, (hR'.rng b r hr).2⟩
end Go.Proofs.YtopbojifllnckaaGreatDoor
namespace Go.Proofs.YtopbojifllnckaaGreatDoor
open Go.RowKit
/-- A slice at A reads the commands l (eight cells an element), and lies below block B. -/
def CmdsAt (w : World) (B : Nat) (A : Option Addr) (l : List Cmd) : Prop :=
  (∀ x ∈ l, ∀ n ∈ x.list, I64 n) ∧ (0 < l.length → ∃ ad, A = some ad ∧ ad.block < B ∧ ∀ i x, l[i]? = some x → ∀ j v, x.cells[j]? = some v → w.cell? ((ad.add (i * 8)).add j) = some v)
theorem CmdsAt.below {w w' : World} {B : Nat} {A : Option Addr} {l : List Cmd} (h : CmdsAt w B A l) (hb : Below B w w') : CmdsAt w' B A l := ⟨h.1, fun hn => by
  obtain ⟨ad, e, hl, hc⟩ := h.2 hn
  exact ⟨ad, e, hl, fun i x hx j v hv => (World.cell?_of_block (w := w) (hb.block _ (by rw [block_add, block_add]; exact hl))).trans (hc i x hx j v hv)⟩⟩
theorem add_fld (ad : Addr) (m j : Nat) (hj : 0 < j) : (ad.add m).add j = ⟨(ad.add m).block, (ad.add m).off + j, none⟩ := by
  generalize ad.add m = x
  unfold Addr.add
  rw [if_neg (by omega)]
/-- The cells of the i-th command. -/
theorem CmdsAt.eight {w : World} {B : Nat} {A : Option Addr} {l : List Cmd} (h : CmdsAt w B A l) {i : Nat} (hi : i < l.length) : ∃ ad x, A = some ad ∧ l[i]? = some x ∧ (∀ n ∈ x.list, I64 n) ∧
    w.cell? (ad.add (i * 8)) = some (.int .i64 x.cl) ∧ w.cell? ⟨(ad.add (i * 8)).block, (ad.add (i * 8)).off + 1, none⟩ = some (.int .i64 x.sq) ∧ w.cell? ⟨(ad.add (i * 8)).block, (ad.add (i * 8)).off + 2, none⟩ = some (.int .i64 x.kd) ∧
    w.cell? ⟨(ad.add (i * 8)).block, (ad.add (i * 8)).off + 3, none⟩ = some (.int .i64 x.a) ∧ w.cell? ⟨(ad.add (i * 8)).block, (ad.add (i * 8)).off + 4, none⟩ = some (.int .i64 x.b) ∧ w.cell? ⟨(ad.add (i * 8)).block, (ad.add (i * 8)).off + 5, none⟩ = some (.int .i64 x.c) ∧
    w.cell? ⟨(ad.add (i * 8)).block, (ad.add (i * 8)).off + 6, none⟩ = some (.int .i64 x.d) ∧ w.cell? ⟨(ad.add (i * 8)).block, (ad.add (i * 8)).off + 7, none⟩ = some (.int .i64 x.e) := by
  obtain ⟨ad, e, hl, hc⟩ := h.2 (by omega)
  have hx : l[i]? = some l[i] := List.getElem?_eq_getElem hi
  have hk := hc i _ hx
  refine ⟨ad, l[i], e, hx, h.1 _ (List.getElem_mem hi), ?_, ?_, ?_, ?_, ?_, ?_, ?_, ?_⟩
  · have h0 : w.cell? ((ad.add (i * 8)).add 0) = some (.int .i64 l[i].cl) := hk 0 _ rfl
    simpa [Addr.add] using h0
  · rw [← add_fld ad (i * 8) 1 (by omega)]; exact hk 1 _ rfl
  · rw [← add_fld ad (i * 8) 2 (by omega)]; exact hk 2 _ rfl
  · rw [← add_fld ad (i * 8) 3 (by omega)]; exact hk 3 _ rfl
  · rw [← add_fld ad (i * 8) 4 (by omega)]; exact hk 4 _ rfl
  · rw [← add_fld ad (i * 8) 5 (by omega)]; exact hk 5 _ rfl
  · rw [← add_fld ad (i * 8) 6 (by omega)]; exact hk 6 _ rfl
  · rw [← add_fld ad (i * 8) 7 (by omega)]; exact hk 7 _ rfl
theorem i64_wf {x : Int} (h : (Lit.int .i64 x).wf = true) : I64 x := by
  have h' : (decide (IntKind.i64.min ≤ x) && decide (x ≤ IntKind.i64.max)) = true := h
  have h1 : IntKind.i64.min = -9223372036854775808 := rfl
  have h2 : IntKind.i64.max = 9223372036854775807 := rfl
  rw [h1, h2] at h'
  simp at h'
  exact ⟨by omega, by omega⟩
instance : Inhabited Cmd := ⟨Cmd.none⟩
section
variable {H : Type} {enc : TypeId × Value → H} {w : World}
set_option maxRecDepth 100000 in
theorem open_cmds {sp : Nat → Bool} {A : Option Addr} {n c : Nat} {d : DataW H} {p : List MemPlace} (h : DataW.Trod enc Tryz.prog w 0 sp true 22 (.slice A n c) d p) :
    ∃ l : List Cmd, l.length = n ∧ CmdsAt w w.heap.size A l := by
  obtain ⟨fuel, hf⟩ := h
  rcases Go.Deep.open_slice Tryz.underlying22 hf with ⟨hcs, _⟩ | ⟨a, len, cap, m, n', D, Pl, hcs, _, hl, hm, hmm, _, hi⟩
  · simp only [Value.cells] at hcs
    have : A = none ∧ n = 0 ∧ c = 0 := by simpa using hcs
    obtain ⟨rfl, rfl, rfl⟩ := this
    exact ⟨[], rfl, by simp, fun hn => absurd hn (by simp)⟩
  · have hA : A = some a ∧ n = len ∧ c = cap := by simpa [Value.cells] using hcs
    obtain ⟨rfl, rfl, rfl⟩ := hA
    have hC : Tryz.prog.cellsOf 30 = 8 := by kernel_rfl
    have key : ∀ i, i < n → ∃ x : Cmd, (∀ j v, x.cells[j]? = some v → w.cell? ((a.add (i * 8)).add j) = some v) ∧ ∀ y ∈ x.list, I64 y := by
      intro i hin
      obtain ⟨cs', hc, ht⟩ := hi i (by split at hmm <;> omega)
      rw [hC] at hc
      obtain ⟨_, hlen, hat⟩ := World.cells?_some hc
      obtain ⟨xs, n2, _, hx, hl2, hlen2, hf2⟩ := DataW.trod_struct Tryz.underlying30 ht
      have e3 : Tryz.prog.cellsOf 3 = 1 := by kernel_rfl
      match cs', hlen with
      | [c0, c1, c2, c3, c4, c5, c6, c7], _ =>
        have hwf : ∀ k : Nat, k < 8 → ∃ x : Int, [c0, c1, c2, c3, c4, c5, c6, c7][k]? = some (.int .i64 x) ∧ I64 x := by
          intro k hk
          have hf3 : ∃ y, DataW.trod enc Tryz.prog w 0 sp true n2 3 (([c0, c1, c2, c3, c4, c5, c6, c7].drop k).take 1) = some y := by
            match xs, hlen2 with
            | [y0, y1, y2, y3, y4, y5, y6, y7], _ =>
              match k, hk with
              | 0, _ => exact ⟨y0, by simpa [e3] using hf2 0 _ rfl⟩
              | 1, _ => exact ⟨y1, by simpa [e3] using hf2 1 _ rfl⟩
              | 2, _ => exact ⟨y2, by simpa [e3] using hf2 2 _ rfl⟩
              | 3, _ => exact ⟨y3, by simpa [e3] using hf2 3 _ rfl⟩
              | 4, _ => exact ⟨y4, by simpa [e3] using hf2 4 _ rfl⟩
              | 5, _ => exact ⟨y5, by simpa [e3] using hf2 5 _ rfl⟩
              | 6, _ => exact ⟨y6, by simpa [e3] using hf2 6 _ rfl⟩
              | 7, _ => exact ⟨y7, by simpa [e3] using hf2 7 _ rfl⟩
          obtain ⟨y, hy⟩ := hf3
          obtain ⟨x, f0, _, wf⟩ := DataW.trod_int Tryz.underlying3 hy
          refine ⟨x, ?_, i64_wf wf⟩
          match k, hk with
          | 0, _ => simpa using f0
          | 1, _ => simpa using f0
          | 2, _ => simpa using f0
          | 3, _ => simpa using f0
          | 4, _ => simpa using f0
          | 5, _ => simpa using f0
          | 6, _ => simpa using f0
          | 7, _ => simpa using f0
        obtain ⟨x0, g0, i0⟩ := hwf 0 (by omega)
        obtain ⟨x1, g1, i1⟩ := hwf 1 (by omega)
        obtain ⟨x2, g2, i2⟩ := hwf 2 (by omega)
        obtain ⟨x3, g3, i3⟩ := hwf 3 (by omega)
        obtain ⟨x4, g4, i4⟩ := hwf 4 (by omega)
        obtain ⟨x5, g5, i5⟩ := hwf 5 (by omega)
        obtain ⟨x6, g6, i6⟩ := hwf 6 (by omega)
        obtain ⟨x7, g7, i7⟩ := hwf 7 (by omega)
        simp only [List.getElem?_cons_zero, List.getElem?_cons_succ, Option.some.injEq] at g0 g1 g2 g3 g4 g5 g6 g7
        subst g0 g1 g2 g3 g4 g5 g6 g7
        refine ⟨⟨x0, x1, x2, x3, x4, x5, x6, x7⟩, fun j v hv => ?_, fun y hy => ?_⟩
        · have hj : j < 8 := (Array.getElem?_eq_some_iff.1 hv).1
          have hh := hat j (by simpa using hj)
          rw [hh, ← hv]
          simp [Cmd.cells, ← Array.getElem?_toList]
        · simp only [Cmd.list, List.mem_cons, List.not_mem_nil, or_false] at hy
          rcases hy with rfl | rfl | rfl | rfl | rfl | rfl | rfl | rfl <;> assumption
    obtain ⟨f, hfx⟩ := Go.Deep.choose_lt key
    refine ⟨(List.range n).map f, by simp, ?_, fun hn => ⟨a, rfl, ?_, fun i x hx j v hv => ?_⟩⟩
    · intro d hd
      obtain ⟨i, hi, rfl⟩ := List.mem_map.1 hd
      exact (hfx i (by simpa using hi)).2
    · have hn' : 0 < n := by simpa using hn
      have := World.block_lt_of_cell? w _ ((hfx 0 hn').1 0 _ rfl)
      rwa [block_add, block_add] at this
    · rw [List.getElem?_map] at hx
      obtain ⟨i', hi', rfl⟩ := Option.map_eq_some_iff.1 hx
      have hii : i < n := by
        have := (List.getElem?_eq_some_iff.1 hi').1
        simpa using this
      rw [List.getElem?_range hii] at hi'
      cases hi'
      exact (hfx i hii).1 j v hv
end
end Go.Proofs.YtopbojifllnckaaGreatDoor
namespace Go.Proofs.YtopbojifllnckaaGreatDoor
open Go.RowKit
/-- Where the law stands ahead of round k; O: the own stripe is begun. -/
structure FInv (B : Nat) (gm p1 p2 p3 p4 p5 p6 : Nat) (cl : Int) (k : Nat) (O : Prop) (id ez : Int) (T : Nat → Nat) (L : List Str) (ep : Int) (N : Nat) (f : Int → Int) (w : World) : Prop where
  mgr : Mgr B T w gm p1 p2 p3 p4 p5 p6 L ep N f
  num : N ≤ 2 * k + 4
  num0 : ¬ O → N ≤ 2 * k
  all : ∀ x, f x ≤ 2147483648
  oth : ∀ x, x ≠ cl → f x ≤ k
  own : O → f cl ≤ 1073741825 ∧ ∃ j : Nat, id = j ∧ j < 100000 ∧ OwnS L j cl ez
  non : ¬ O → f cl ≤ 0 ∧ id = -1
def FAt (w : World) (B : Nat) (gm : Nat) (cl : Int) (k : Nat) (O : Prop) (id ez : Int) (w' : World) : Prop := ∃ p1 p2 p3 p4 p5 p6 T L ep N f, FInv B gm p1 p2 p3 p4 p5 p6 cl k O id ez T L ep N f w' ∧ Below B w w'
section
variable {B : Nat} {T T' : Nat → Nat} {w w' W : World} {gm p1 p2 p3 p4 p5 p6 : Nat} {L L' : List Str} {ep ep' : Int} {N : Nat} {f f' : Int → Int} {cl id ez : Int} {k : Nat} {O : Prop}
theorem Goes.under (h : Goes T w T' w') (hF : Fits T B w) : Below B w w' := h.only.below hF.1 fun k hk hT => by
  have := (hF.2 k hT).1
  omega
theorem FAt.below (h : FAt w B gm cl k O id ez w') (hb : Below w'.heap.size w' W) : FAt w B gm cl k O id ez W := by
  obtain ⟨p1, p2, p3, p4, p5, p6, T, L, ep, N, f, h, hw⟩ := h
  exact ⟨p1, p2, p3, p4, p5, p6, T, L, ep, N, f, ⟨h.mgr.below hb, h.num, h.num0, h.all, h.oth, h.own, h.non⟩, hw.trans (hb.mono h.mgr.fits.1)⟩
theorem FAt.next (h : FAt w B gm cl k O id ez w') : FAt w B gm cl (k + 1) O id ez w' := by
  obtain ⟨p1, p2, p3, p4, p5, p6, T, L, ep, N, f, h, hw⟩ := h
  exact ⟨p1, p2, p3, p4, p5, p6, T, L, ep, N, f, ⟨h.mgr, by have := h.num; omega, fun hO => by have := h.num0 hO; omega, h.all, fun x hx => by have := h.oth x hx; omega, h.own, h.non⟩, hw⟩
theorem FAt.same {O' : Prop} (h : FAt w B gm cl k O id ez w') (he : O ↔ O') : FAt w B gm cl k O' id ez w' := by rw [← propext he]; exact h
theorem FAt.lt (h : FAt w B gm cl k O id ez w') : gm < w'.heap.size := by
  obtain ⟨p1, p2, p3, p4, p5, p6, T, L, ep, N, f, h, hw⟩ := h
  obtain ⟨_, hq⟩ := h.mgr.blk
  exact hq.lt
theorem FAt.bel (h : FAt w B gm cl k O id ez w') : Below B w w' := by
  obtain ⟨p1, p2, p3, p4, p5, p6, T, L, ep, N, f, h, hw⟩ := h
  exact hw
/-- Another's command. -/
theorem FAt.other (h : FAt w B gm cl k O id ez W) (hk : k ≤ 40) (o kd a b c d e : Int) (ho : o ≠ cl) (hx : Cmd.OK ⟨o, k, kd, a, b, c, d, e⟩) (hi : Cmd.In ⟨o, k, kd, a, b, c, d, e⟩) (hn : ¬ (kd = 3 ∧ a = id ∧ 0 ≤ id)) :
    Calls Tryz.prog 9 #[.pointer (some ⟨gm, 0, none⟩), .string (encC ⟨o, k, kd, a, b, c, d, e⟩)] W fun e w' => (∃ s, e = .returned (.string s)) ∧ FAt w B gm cl (k + 1) O id ez w' := by
  obtain ⟨p1, p2, p3, p4, p5, p6, T, L, ep, N, f, h, hw⟩ := h
  refine (Do_ok h.mgr (by have := h.num; omega) o k kd a b c d e hx hi h.all (h.oth o ho)).mono ?_
  rintro e0 w' ⟨l, r, T', L', ep', he, _, _, _, h1, h2, h3⟩
  refine ⟨⟨_, he⟩, p1, p2, p3, p4, p5, p6, T', L', ep', N + 2, _, ⟨h1, by have := h.num; omega, fun hO => by have := h.num0 hO; omega, fun x => ?_, fun x hx => ?_, fun hO => ?_, fun hO => ?_⟩, hw.trans (h2.under h.mgr.fits)⟩
  · have := h.all x
    split <;> omega
  · have := h.oth x hx
    split <;> omega
  · obtain ⟨q1, j, rfl, q2, q3⟩ := h.own hO
    refine ⟨by rw [if_neg (fun e => ho e.symm)]; exact q1, j, rfl, q2, q3.do_ h3 ho fun hh => hn ⟨hh.1, hh.2, by omega⟩⟩
  · obtain ⟨q1, q2⟩ := h.non hO
    exact ⟨by rw [if_neg (fun e => ho e.symm)]; exact q1, q2⟩
theorem FAt.other_none (h : FAt w B gm cl k O id ez W) : Calls Tryz.prog 9 #[.pointer (some ⟨gm, 0, none⟩), .string ⟨#[]⟩] W fun e w' => (∃ s, e = .returned (.string s)) ∧ FAt w B gm cl (k + 1) O id ez w' := by
  refine (Do_none gm W).mono ?_
  rintro e0 w' ⟨he, hb⟩
  exact ⟨he, (h.below hb).next⟩
theorem beg_ok (h0 : 0 ≤ cl) (h1 : cl < 16) : Cmd.OK ⟨cl, 1073741824, 1, 5, 0, 0, 0, 0⟩ := ⟨h0, h1, by simp, by simp, by simp, by simp⟩
theorem beg_in (cl : Int) : Cmd.In ⟨cl, 1073741824, 1, 5, 0, 0, 0, 0⟩ := ⟨⟨by simp, by simp⟩, ⟨by simp, by simp⟩, ⟨by simp, by simp⟩, ⟨by simp, by simp⟩, ⟨by simp, by simp⟩⟩
theorem com_ok (j : Int) (h0 : 0 ≤ cl) (h1 : cl < 16) : Cmd.OK ⟨cl, 1073741825, 2, j, 0, 0, 0, 0⟩ := ⟨h0, h1, by simp, by simp, by simp, by simp⟩
theorem com_in (cl : Int) {j : Nat} (hj : j < 100000) : Cmd.In ⟨cl, 1073741825, 2, j, 0, 0, 0, 0⟩ := ⟨⟨show (-9223372036854775808 : Int) ≤ (j : Int) by omega, show (j : Int) < 9223372036854775808 by omega⟩, ⟨by simp, by simp⟩, ⟨by simp, by simp⟩, ⟨by simp, by simp⟩, ⟨by simp, by simp⟩⟩
/-- What the law asks behind its own begin. -/
def FBeg (w : World) (B gm : Nat) (cl : Int) (k : Nat) (l : List Int) (w' : World) : Prop := ∃ (j : Nat) (ep : Int), l = [(j : Int), ep] ∧ FAt w B gm cl k True j ep w' ∧ j < 100000 ∧ ∀ W2, Below w'.heap.size w' W2 → Calls Tryz.prog 10 #[.pointer (some ⟨gm, 0, none⟩)] W2 fun e w2 => e = .returned (.int .i64 ep) ∧ W2 = w2
theorem FAt.begin_ (h : FAt w B gm cl k O id ez W) (hO : ¬ O) (hk : k ≤ 40) (h0 : 0 ≤ cl) (h1 : cl < 16) :
    Calls Tryz.prog 9 #[.pointer (some ⟨gm, 0, none⟩), .string (encC ⟨cl, 1073741824, 1, 5, 0, 0, 0, 0⟩)] W fun e w' => ∃ (l : List Int) (r : Nat), e = .returned (.string (ansB l r)) ∧ (∀ x ∈ l, I64 x) ∧ l.length ≤ 3 ∧ r < 256 ∧ Below B w w' ∧ (r = 0 → FBeg w B gm cl k l w') := by
  obtain ⟨p1, p2, p3, p4, p5, p6, T, L, ep, N, f, h, hw⟩ := h
  obtain ⟨q1, q2⟩ := h.non hO
  have q3 := h.num0 hO
  refine (Do_ok h.mgr (by omega) cl 1073741824 1 5 0 0 0 0 (beg_ok h0 h1) (beg_in cl) h.all (by omega)).mono ?_
  rintro e0 w' ⟨l, r, T', L', ep', he, k1, k2, k3, k4, k5, k6⟩
  have hw' := hw.trans (k5.under h.mgr.fits)
  refine ⟨l, r, he, k1, k2, k3, hw', fun hr => ?_⟩
  subst hr
  obtain ⟨s1, s2, s3⟩ := OwnS.begin_ k6
  subst s2
  have hl := h.mgr.len
  refine ⟨L.length, ep', s3, ⟨p1, p2, p3, p4, p5, p6, T', L', ep', N + 2, _, ⟨k4, by omega, fun hh => absurd trivial hh, fun x => ?_, fun x hx => ?_, fun _ => ?_, fun hh => absurd trivial hh⟩, hw'⟩, by omega, fun W2 hb => mEpoch_any (k4.below hb)⟩
  · have := h.all x
    split <;> omega
  · rw [if_neg hx]
    exact h.oth x hx
  · exact ⟨by rw [if_pos rfl]; omega, _, rfl, by omega, s1⟩
/-- What the law asks behind its own commit. -/
def FCom (w : World) (B gm : Nat) (id ez : Int) (r : Nat) (w' : World) : Prop := ∃ (ep st : Int), ((ep = ez ∧ r = 0 ∧ st = 2) ∨ (ep ≠ ez ∧ r = 10 ∧ st = 1)) ∧ Below B w w' ∧ B ≤ w'.heap.size ∧
  (∀ W2, Below w'.heap.size w' W2 → Calls Tryz.prog 10 #[.pointer (some ⟨gm, 0, none⟩)] W2 fun e w2 => e = .returned (.int .i64 ep) ∧ W2 = w2) ∧
  ∀ W2, Below w'.heap.size w' W2 → Calls Tryz.prog 11 #[.pointer (some ⟨gm, 0, none⟩), .int .i64 id] W2 fun e w2 => ∃ (i ow se ln : Int) (A : Option Addr) (n c : Nat), e = .returned (.tuple #[.agg #[.int .i64 i, .int .i64 st, .int .i64 ow, .int .i64 se, .int .i64 ln, .slice A n c], .bool true]) ∧ Below W2.heap.size W2 w2
theorem FAt.commit_ (h : FAt w B gm cl k O id ez W) (hO : O) (hk : k ≤ 40) (h0 : 0 ≤ cl) (h1 : cl < 16) :
    Calls Tryz.prog 9 #[.pointer (some ⟨gm, 0, none⟩), .string (encC ⟨cl, 1073741825, 2, id, 0, 0, 0, 0⟩)] W fun e w' => ∃ (l : List Int) (r : Nat), e = .returned (.string (ansB l r)) ∧ (∀ x ∈ l, I64 x) ∧ l.length ≤ 3 ∧ r < 256 ∧ FCom w B gm id ez r w' := by
  obtain ⟨p1, p2, p3, p4, p5, p6, T, L, ep, N, f, h, hw⟩ := h
  obtain ⟨q1, j, rfl, q2, q3⟩ := h.own hO
  have q4 := h.num
  refine (Do_ok h.mgr (by omega) cl 1073741825 2 j 0 0 0 0 (com_ok j h0 h1) (com_in cl q2) h.all (by omega)).mono ?_
  rintro e0 w' ⟨l, r, T', L', ep', he, k1, k2, k3, k4, k5, k6⟩
  obtain ⟨rfl, s, s1, s2⟩ := q3.commit_ k6
  refine ⟨l, r, he, k1, k2, k3, ep', s.st, s2, hw.trans (k5.under h.mgr.fits), k4.fits.1, fun W2 hb => mEpoch_any (k4.below hb), fun W2 hb => ?_⟩
  refine (mStripe_any (k4.below hb) (j : Int)).mono ?_
  rintro e w2 ⟨i, st, ow, se, ln, A, n, c, t, rfl, ht, hb2⟩
  rcases ht with ⟨rfl, s', _, t1, t2, t3, t4, t5, t6⟩ | ⟨_, _, _, _, _, _, t7⟩
  · have : ((j : Int)).toNat = j := by omega
    rw [this, s1] at t1
    cases t1
    subst t2
    exact ⟨i, ow, se, ln, A, n, c, rfl, hb2⟩
  · have := (List.getElem?_eq_some_iff.1 s1).1
    omega
end
end Go.Proofs.YtopbojifllnckaaGreatDoor
