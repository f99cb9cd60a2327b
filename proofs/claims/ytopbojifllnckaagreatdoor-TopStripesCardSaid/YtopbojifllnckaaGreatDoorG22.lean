/- usage: slices.Insert of one use. usage: slices.Insert of one use: the walk. usage: may, add, Add. lease: the leases in memory. lease: Grant, Drop. -/
import Derived.Lib.AppendZeros
import Derived.Lib.AppendZerosOnto
import Derived.Lib.Overlaps
import Derived.StillTailTactics
import Derived.Deep.DeepCutAuto
import Derived.Maps.OwnSet
import Derived.Maps.Views
import Derived.Test.YtopbojifllnckaaGreatDoorG21
namespace Go.Proofs.YtopbojifllnckaaGreatDoor
open Go.RowKit
attribute [local irreducible] wpQuiet
/-- A row with one use more. -/
structure INext (S : Nat → Prop) (w : World) (A : Option Addr) (n : Nat) (w' : World) (A' : Option Addr) (c' : Nat) : Prop where
  row : IRow (Grow S w w') w' A' (n + 1) c'
  other : ∀ k, k < w.heap.size → A ≠ some ⟨k, 0, none⟩ → w'.heap[k]? = w.heap[k]?
  size : w.heap.size ≤ w'.heap.size
  os : w'.os = w.os
  tape : w'.tape = w.tape
  output : w'.output = w.output
theorem allInt_list {l : List Value} (h : IntL l) : AllInt l.toArray := fun i hi => by
  have hi' : i < l.length := by simpa using hi
  obtain ⟨n, hn⟩ := h l[i] (List.getElem_mem hi')
  exact ⟨n, by simp [hi', hn]⟩
theorem zero_ints (k : Nat) : IntL (Builtin.zeroCells (Value.agg #[.int .i64 0, .int .i64 0, .int .i64 0, .int .i64 0]).cells k).toList := fun v hv => by
  unfold Builtin.zeroCells at hv
  simp only [Array.toList_map, List.mem_map] at hv
  obtain ⟨i, _, rfl⟩ := hv
  have e : (Value.agg #[.int .i64 0, .int .i64 0, .int .i64 0, .int .i64 0]).cells = #[.int .i64 0, .int .i64 0, .int .i64 0, .int .i64 0] := rfl
  rw [e]
  have h4 : i % (#[.int .i64 0, .int .i64 0, .int .i64 0, .int .i64 0] : Array Value).size < 4 := Nat.mod_lt _ (by decide)
  generalize i % (#[.int .i64 0, .int .i64 0, .int .i64 0, .int .i64 0] : Array Value).size = j at h4
  match j, h4 with
  | 0, _ => exact ⟨0, rfl⟩
  | 1, _ => exact ⟨0, rfl⟩
  | 2, _ => exact ⟨0, rfl⟩
  | 3, _ => exact ⟨0, rfl⟩
theorem size_zeros (k : Nat) : (Builtin.zeroCells (Value.agg #[.int .i64 0, .int .i64 0, .int .i64 0, .int .i64 0]).cells k).size = k * 4 := by
  rw [size_zeroCells]
  rfl
section
variable {S : Nat → Prop} {w : World} {r p n c i : Nat} {A : Option Addr} {cur pc : Array Value}
/-- A new row of numbers. -/
theorem new_row (w : World) {l1 l2 : List Value} {k m c' : Nat} (arr : Array Value) (harr : arr.toList = l1 ++ l2) (h1 : IntL l1) (h2 : IntL l2) (hl1 : l1.length = k * 4) (hl2 : l2.length = m * 4) (hc : c' = k + m) (hm : c' ≤ maxLen) (hn : n + 1 ≤ c') :
    INext S w A n (w.drew.alloc (.cells arr 336)) (some ⟨w.heap.size, 0, none⟩) c' := by
  have ha : arr = (l1 ++ l2).toArray := Array.ext' (by rw [harr])
  subst ha
  refine ⟨.inr ⟨w.heap.size, _, rfl, .inr ⟨Nat.le_refl _, by simp⟩, Blk.new w.drew 336 _, hn, hm, by simp [hl1, hl2]; omega, allInt_list fun v hv => ?_⟩, fun k hk _ => Below.heap_alloc w.drew _ k hk, by simp, rfl, rfl, rfl⟩
  rcases List.mem_append.1 hv with hv | hv
  · exact h1 v hv
  · exact h2 v hv
/-- append of one use at the end. -/
theorem insEnd (h : IRow S w A n c) (hp : Blk w p 336 pc) (hpi : AllInt pc) (hp4 : pc.size = 4) (hn : n ≤ 1000000) :
    ∃ A' c' w', (Builtin.append_ #[162, 162] 162 #[.slice A n c, .slice (some ⟨p, 0, none⟩) 1 1]).run Tryz.prog w = .ok (.slice A' (n + 1) c') w' ∧ INext S w A n w' A' c' := by
  obtain ⟨j, hj, hzz⟩ := Option.map_eq_some_iff.1 info336
  simp only [Prod.mk.injEq] at hzz
  obtain ⟨hz, h4, h32⟩ := hzz
  have hpl : pc.toList.length = 1 * j.size := by rw [Array.length_toList, hp4, h4]
  have hps : ∀ k v, pc.toList[k]? = some v → w.cell? ((⟨p, 0, none⟩ : Addr).add k) = some v := fun k v hk => by
    rw [add_plain, hp.cell, ← hk]
    simp
  rcases h with ⟨rfl, rfl, rfl⟩ | ⟨r, cur, rfl, hsr, hr, hnc, hcm, hcs, hri⟩
  · have hrun := run_append_nil (P := Tryz.prog) w 162 162 336 j _ Tryz.underlying162 hj hz ⟨p, 0, none⟩ 1 1 pc.toList hpl hps (by omega) (by omega) (by omega)
    have hg := grownCap_ge w 1 0 336
    have hgm := grownCap_le_maxLen w 1 0 336 (by decide)
    refine ⟨_, _, _, hrun, ?_⟩
    exact new_row (S := S) (A := none) (n := 0) w (l1 := pc.toList) (l2 := (Builtin.zeroCells (Value.agg #[.int .i64 0, .int .i64 0, .int .i64 0, .int .i64 0]).cells (grownCap w 1 0 336 - 1)).toList) (k := 1) (m := grownCap w 1 0 336 - 1) (c' := grownCap w 1 0 336) _ (by simp) hpi.list (zero_ints _) (by rw [Array.length_toList, hp4]) (by rw [Array.length_toList, size_zeros]) (by omega) hgm (by omega)
  · by_cases hroom : n + 1 ≤ c
    · have hrun := run_append_room (P := Tryz.prog) w 162 162 336 j Tryz.underlying162 hj r n c cur hr ⟨p, 0, none⟩ 1 1 pc.toList hpl hps hpi.list.one hroom (by rw [hpl, h4]; omega)
      have hl : (cur.toList.take (n * j.size) ++ pc.toList ++ cur.toList.drop (n * j.size + pc.toList.length)).length = cur.size := by
        rw [List.length_append, List.length_append, hpl, h4, List.length_take, List.length_drop, Array.length_toList]
        omega
      have hst := IStep.row hr (vs := cur.toList.take (n * j.size) ++ pc.toList ++ cur.toList.drop (n * j.size + pc.toList.length)) (fun u hu => by
        simp only [List.mem_append] at hu
        rcases hu with (hu | hu) | hu
        · exact hri.list u (List.mem_of_mem_take hu)
        · exact hpi.list u hu
        · exact hri.list u (List.mem_of_mem_drop hu)) hl
      obtain ⟨cur', k1, k2, k3⟩ := hst.blk cur hr hri
      exact ⟨_, _, _, hrun, ⟨.inr ⟨r, cur', rfl, .inl hsr, k1, hroom, hcm, by rw [k2]; exact hcs, k3⟩, fun k _ hk => hst.other k (fun e => hk (by rw [e])), by rw [hst.size]; exact Nat.le_refl _, hst.os, hst.tape, hst.output⟩⟩
    · have hol : (cur.toList.take (n * 4)).length = n * j.size := by rw [h4, List.length_take, Array.length_toList]; omega
      have hos : ∀ k v, (cur.toList.take (n * 4))[k]? = some v → w.cell? ((⟨r, 0, none⟩ : Addr).add k) = some v := fun k v hk => by
        have := blk_reads hr 0 (n * 4) k v (by simpa using hk)
        exact this
      have hrun := run_append_grow (P := Tryz.prog) w 162 162 336 j _ Tryz.underlying162 hj hz ⟨r, 0, none⟩ n c _ hol hos ⟨p, 0, none⟩ 1 1 pc.toList hpl hps (by omega) (by omega) (growslice_fits (by omega) (by rw [h32]; omega))
      have hg := grownCap_ge w (n + 1) c 336
      have hgm := grownCap_le_maxLen w (n + 1) c 336 (by simp only [maxLen]; omega)
      refine ⟨_, _, _, hrun, ?_⟩
      exact new_row (S := S) (A := some ⟨r, 0, none⟩) (n := n) w (l1 := cur.toList.take (n * 4) ++ pc.toList) (l2 := (Builtin.zeroCells (Value.agg #[.int .i64 0, .int .i64 0, .int .i64 0, .int .i64 0]).cells (grownCap w (n + 1) c 336 - (n + 1))).toList) (k := n + 1) (m := grownCap w (n + 1) c 336 - (n + 1)) (c' := grownCap w (n + 1) c 336) _ (by simp) (fun u hu => by
          rcases List.mem_append.1 hu with hu | hu
          · exact hri.list u (List.mem_of_mem_take hu)
          · exact hpi.list u hu) (zero_ints _) (by rw [List.length_append, hol, h4, Array.length_toList, hp4]; omega) (by rw [Array.length_toList, size_zeros]) (by omega) hgm (by omega)
end
end Go.Proofs.YtopbojifllnckaaGreatDoor
namespace Go.Proofs.YtopbojifllnckaaGreatDoor
open Go.RowKit
attribute [local irreducible] wpQuiet
section
variable {S : Nat → Prop} {w : World} {r p n c i : Nat} {A : Option Addr} {cur pc : Array Value}
set_option maxRecDepth 100000 in
set_option maxHeartbeats 1600000 in
theorem uins_end (h : IRow S w A n c) (hp : Blk w p 336 pc) (hpi : AllInt pc) (hp4 : pc.size = 4) (hn : n ≤ 1000000) :
    Calls Tryz.prog 292 #[.slice A n c, .int .i64 n, .slice (some ⟨p, 0, none⟩) 1 1] w fun e w' => ∃ A' c', e = .returned (.slice A' (n + 1) c') ∧ INext S w A n w' A' c' := by
  obtain ⟨A', c', w1, hrun, hx⟩ := insEnd h hp hpi hp4 hn
  have hnc : (n : Int) ≤ (c : Int) := by
    rcases h with ⟨_, h1, h2⟩ | ⟨_, _, _, _, _, h1, _⟩ <;> omega
  have hn0 : (0 : Int) ≤ (n : Int) := by omega
  have HR := hid hrun
  have HX := hid hx
  clear h hp hpi hp4 hrun hx
  go_enter Tryz.func292, Tryz.ntmps292
  go_wp2_with (at_builtin; refine Lib.wpList_append_run _ rfl (.tmp 23) (.tmp 24) 162 162 rfl _ _ rfl rfl _ _ HR.out ?_)
  all_goals
    go_ret
    exact ⟨A', c', rfl, HX.out⟩
/-- append of zeros, beyond the room. -/
theorem insGrow {k : Nat} (hr : Blk w r 336 cur) (hri : AllInt cur) (hcs : cur.size = c * 4) (hi : i < c) (hk : c + 1 = i + k) (hn : c ≤ 1000000) :
    ∃ c' cur' w1, (Builtin.append_ #[162, 3] 162 #[.slice (some ⟨r, 0, none⟩) i c, .int .i64 k]).run Tryz.prog w = .ok (.slice (some ⟨w.heap.size, 0, none⟩) (c + 1) c') w1 ∧ Blk w1 w.heap.size 336 cur' ∧ AllInt cur' ∧ cur'.size = c' * 4 ∧ c + 1 ≤ c' ∧ c' ≤ maxLen ∧ Below w.heap.size w w1 ∧ w1.heap.size = w.heap.size + 1 := by
  obtain ⟨j, hj, hzz⟩ := Option.map_eq_some_iff.1 info336
  simp only [Prod.mk.injEq] at hzz
  obtain ⟨hz, h4, h32⟩ := hzz
  have hol : (cur.toList.take (i * 4)).length = i * j.size := by rw [h4, List.length_take, Array.length_toList]; omega
  have hos : ∀ k v, (cur.toList.take (i * 4))[k]? = some v → w.drew.cell? ((⟨r, 0, none⟩ : Addr).add k) = some v := fun k v hk => blk_reads hr 0 (i * 4) k v (by simpa using hk)
  have hf := run_firstCells_some (P := Tryz.prog) w.drew j.size i ⟨r, 0, none⟩ i c _ hol hos
  have hrun := Lib.run_append_grow_zeros (P := Tryz.prog) w 162 3 162 336 j _ .i64 .i64 Tryz.underlying162 Tryz.underlying3 hj hz (some ⟨r, 0, none⟩) i c _ hf k (by omega) (by omega) (by omega) (by omega) (by rw [h32]; omega) (growslice_fits (by omega) (by rw [h32]; omega))
  have hg := grownCap_ge w (i + k) c 336
  have hgm := grownCap_le_maxLen w (i + k) c 336 (by simp only [maxLen]; omega)
  rw [← hk] at hrun hg hgm
  refine ⟨_, _, _, hrun, Blk.new w.drew 336 _, ?_, ?_, hg, hgm, (Below.refl w.heap.size w).drew.alloc (Nat.le_refl _) _, by simp⟩
  · intro q hq
    have := allInt_list (l := cur.toList.take (i * 4) ++ ((Builtin.zeroCells (Value.agg #[.int .i64 0, .int .i64 0, .int .i64 0, .int .i64 0]).cells k).toList ++ (Builtin.zeroCells (Value.agg #[.int .i64 0, .int .i64 0, .int .i64 0, .int .i64 0]).cells (grownCap w (c + 1) c 336 - (c + 1))).toList)) (fun v hv => by
      rcases List.mem_append.1 hv with hv | hv
      · exact hri.list v (List.mem_of_mem_take hv)
      · rcases List.mem_append.1 hv with hv | hv
        · exact zero_ints _ v hv
        · exact zero_ints _ v hv)
    have e : ((cur.toList.take (i * 4)).toArray ++ Builtin.zeroCells (Value.agg #[.int .i64 0, .int .i64 0, .int .i64 0, .int .i64 0]).cells k ++ Builtin.zeroCells (Value.agg #[.int .i64 0, .int .i64 0, .int .i64 0, .int .i64 0]).cells (grownCap w (c + 1) c 336 - (c + 1))) = (cur.toList.take (i * 4) ++ ((Builtin.zeroCells (Value.agg #[.int .i64 0, .int .i64 0, .int .i64 0, .int .i64 0]).cells k).toList ++ (Builtin.zeroCells (Value.agg #[.int .i64 0, .int .i64 0, .int .i64 0, .int .i64 0]).cells (grownCap w (c + 1) c 336 - (c + 1))).toList)).toArray := Array.ext' (by simp)
    rw [e] at hq ⊢
    exact this q hq
  · rw [Array.size_append, Array.size_append, size_zeros, size_zeros, List.size_toArray, hol, h4]
    omega
set_option maxRecDepth 100000 in
set_option maxHeartbeats 1600000 in
theorem uins_grow (hr : Blk w r 336 cur) (hri : AllInt cur) (hcs : cur.size = c * 4) (hnc : n ≤ c) (hg : c < n + 1) (hi : i < n) (hp : Blk w p 336 pc) (hpi : AllInt pc) (hp4 : pc.size = 4) (hn : n ≤ 1000000) :
    Calls Tryz.prog 292 #[.slice (some ⟨r, 0, none⟩) n c, .int .i64 i, .slice (some ⟨p, 0, none⟩) 1 1] w fun e w' => ∃ A' c', e = .returned (.slice A' (n + 1) c') ∧ INext S w (some ⟨r, 0, none⟩) n w' A' c' := by
  obtain rfl : c = n := by omega
  have h1 : (i : Int) ≤ (c : Int) := by omega
  have h0 : (0 : Int) ≤ (i : Int) := by omega
  have hin : ((i : Int) == (c : Int)) = false := by simp; omega
  have hin' : (i == c) = false := by simp; omega
  obtain ⟨k, hk⟩ : ∃ k, c + 1 = i + k := ⟨c + 1 - i, by omega⟩
  have hki : (c : Int) + 1 - (i : Int) = (k : Int) := by omega
  obtain ⟨c', cur', w1, hrun, hb1, hi1, hs1, hcc, hcm, hB, hz1⟩ := insGrow (k := k) hr hri hcs hi hk hn
  have hcop := hid (copyI (w := w1) (r := w.heap.size) (rs := p) (o := i * 4) (os := 0) (dl := c + 1 - i) (dc := c' - i) (sl := 1) (sc := 1) (m := 1) 3 hb1 (hp.below hB (Nat.lt_of_lt_of_le hp.lt (Nat.le_refl _))) hpi (by show _ = min _ _; omega) (by omega) (by omega))
  have hcop3 : Hid (∀ w2, IStep w1 w.heap.size w2 → ∃ w3, (Builtin.copy_ #[162, 162] 3 #[.slice (some ⟨w.heap.size, (i + 1) * 4, none⟩) (c - i) (c' - (i + 1)), .slice (some ⟨r, i * 4, none⟩) (c - i) (c - i)]).run Tryz.prog (w2.drewN 1) = .ok (.int .i64 (c - i : Nat)) w3 ∧ IStep (w2.drewN 1) w.heap.size w3) := fun w2 hst2 => by
    obtain ⟨cur2, k1, k2, k3⟩ := hst2.blk cur' hb1 hi1
    have hr2 : Blk w2 r 336 cur := (hst2.other r (Nat.ne_of_lt hr.lt)).trans (hr.below hB hr.lt)
    exact copyI (w := w2.drewN 1) (r := w.heap.size) (rs := r) 3 k1 hr2 hri (by show _ = min _ _; omega) (by omega) (by omega)
  have hwr : IntKind.i64.wrap ((i : Int) + 1) = (i : Int) + 1 := by rw [IntKind.wrap_i64]; omega
  have hcne : (c' = i) = False := by simp; omega
  have hcne1 : (c' = i + 1) = False := by simp; omega
  have hb3 : (i : Int) ≤ (c' : Int) := by omega
  have hb4 : (i : Int) + 1 ≤ (c' : Int) := by omega
  have hb5 : (c : Int) + 1 ≤ (c' : Int) := by omega
  have hb6 : (i : Int) + 1 ≤ (c : Int) + 1 := by omega
  have hb7 : (0 : Int) ≤ (i : Int) + 1 := by omega
  have HG := hid hrun
  have HD := hid (And.intro hr (And.intro hri (And.intro hcs (And.intro hp (And.intro hpi (And.intro hp4 (And.intro hb1 (And.intro hi1 (And.intro hs1 (And.intro hB hz1))))))))))
  clear hrun hr hri hcs hp hpi hp4 hb1 hi1 hs1 hB hz1 hk
  go_enter Tryz.func292, Tryz.ntmps292
  go_upto_region 9 with (fail)
  go_wp2_with (at_builtin; refine Lib.wpList_append_run _ rfl (.tmp 34) (.tmp 39) 162 3 rfl _ _ rfl rfl _ _ HG.out ?_)
  obtain ⟨w2, hc2, hst2⟩ := hcop.out
  have HC2 := hid hc2
  have HS2 := hid hst2
  obtain ⟨w3, hc3, hst3⟩ := hcop3.out w2 hst2
  have HC3 := hid hc3
  have HS3 := hid hst3
  clear hc2 hst2 hc3 hst3
  go_wp2_with (rw [HC2.out])
  go_still_tail 8, (by kernel_rfl)
  change wpList _ _ _ _ _ (w2.drewN 1)
  go_wp2_with (rw [HC3.out])
  go_ret
  obtain ⟨hr, hri, hcs, hp, hpi, hp4, hb1, hi1, hs1, hB, hz1⟩ := HD.out
  obtain ⟨cur2, k1, k2, k3⟩ := HS2.out.blk cur' hb1 hi1
  have k1' : Blk (w2.drewN 1) w.heap.size 336 cur2 := k1
  obtain ⟨cur3, m1, m2, m3⟩ := HS3.out.blk cur2 k1' k3
  have e2 : w2.heap.size = w1.heap.size := HS2.out.size
  have e3 : w3.heap.size = w2.heap.size := HS3.out.size
  refine ⟨_, _, rfl, ⟨.inr ⟨w.heap.size, cur3, rfl, .inr ⟨Nat.le_refl _, by omega⟩, m1, hcc, hcm, by omega, m3⟩, fun k hk _ => ?_, by omega, ?_, ?_, ?_⟩⟩
  · have hne : k ≠ w.heap.size := Nat.ne_of_lt hk
    exact (HS3.out.other k hne).trans ((HS2.out.other k hne).trans (hB.block k hk))
  · exact HS3.out.os.trans (HS2.out.os.trans hB.os)
  · exact HS3.out.tape.trans (HS2.out.tape.trans hB.tape)
  · exact HS3.out.output.trans (HS2.out.output.trans hB.output)
set_option maxRecDepth 100000 in
set_option maxHeartbeats 1600000 in
theorem uins_room (hr : Blk w r 336 cur) (hri : AllInt cur) (hcm : c ≤ maxLen) (hcs : cur.size = c * 4) (hsr : S r) (hg : n + 1 ≤ c) (hi : i < n) (hp : Blk w p 336 pc) (hpi : AllInt pc) (hp4 : pc.size = 4) (hpr : p ≠ r) (hn : n ≤ 1000000) :
    Calls Tryz.prog 292 #[.slice (some ⟨r, 0, none⟩) n c, .int .i64 i, .slice (some ⟨p, 0, none⟩) 1 1] w fun e w' => ∃ A' c', e = .returned (.slice A' (n + 1) c') ∧ INext S w (some ⟨r, 0, none⟩) n w' A' c' := by
  have h1 : (i : Int) ≤ (c : Int) := by omega
  have h0 : (0 : Int) ≤ (i : Int) := by omega
  have h2 : (n : Int) + 1 ≤ (c : Int) := by omega
  have h3 : (0 : Int) ≤ (n : Int) + 1 := by omega
  have h4 : (i : Int) + 1 ≤ (n : Int) + 1 := by omega
  have h5 : (i : Int) ≤ (n : Int) + 1 := by omega
  have h6 : (0 : Int) ≤ (i : Int) + 1 := by omega
  have h7 : (n : Int) ≤ (c : Int) := by omega
  have h8 : (i : Int) ≤ (n : Int) := by omega
  have h9 : (i : Int) + 1 ≤ (c : Int) := by omega
  have h10 : ¬ ((c : Int) < (n : Int) + 1) := by omega
  have hin : ((i : Int) == (n : Int)) = false := by simp; omega
  have hin' : (i == n) = false := by simp; omega
  have hwr : IntKind.i64.wrap ((i : Int) + 1) = (i : Int) + 1 := by rw [IntKind.wrap_i64]; omega
  have hcne : (c = i) = False := by simp; omega
  have hcne1 : (c = i + 1) = False := by simp; omega
  obtain ⟨j, hj, hzz⟩ := Option.map_eq_some_iff.1 info336
  simp only [Prod.mk.injEq] at hzz
  obtain ⟨hz, hj4, hj32⟩ := hzz
  have hov := hid (show ∀ lb cb, (callFunc 327 #[.slice (some ⟨p, 0, none⟩) 1 1, .slice (some ⟨r, (i + 1) * 4, none⟩) lb cb]).run Tryz.prog w = .ok (.value (.bool false)) w from fun lb cb => by
    have hsa : w.shape? p = some (336, 4) := by
      rw [World.shape?, hp]
      simp [hp4]
    have hsb : w.shape? r = some (336, cur.size) := by
      rw [World.shape?, hr]
    rw [run_callFunc_extern (f := 327) rfl (by kernel_rfl) (by kernel_rfl) (by kernel_rfl) (e := Extern.SlicesOverlaps.overlaps #[162, 162] #[4]) (by kernel_rfl),
      Lib.run_overlaps_apart w 162 4 336 Tryz.underlying162 4 (fun w => by simp [sizeOf, typeInfo, hj, hj4]) ⟨p, 0, none⟩ ⟨r, (i + 1) * 4, none⟩ 1 1 lb cb hpr 336 336 4 cur.size hsa hsb (by omega) (hp.frozen 0) (hp.frozen 4)]
    rfl)
  obtain ⟨w1, hc1, hst1⟩ := copyI (w := w.drewN 1) (r := r) (rs := r) (o := (i + 1) * 4) (os := i * 4) (dl := n - i) (dc := c - (i + 1)) (sl := n + 1 - i) (sc := c - i) (m := n - i) 3 hr hr hri (by show _ = min _ _; omega) (by omega) (by omega)
  obtain ⟨cur1, k1, k2, k3⟩ := hst1.blk cur hr hri
  have hp1 : Blk w1 p 336 pc := (hst1.other p hpr).trans hp
  obtain ⟨w2, hc2, hst2⟩ := copyI (w := w1) (r := r) (rs := p) (o := i * 4) (os := 0) (dl := n + 1 - i) (dc := c - i) (sl := 1) (sc := 1) (m := 1) 3 k1 hp1 hpi (by show _ = min _ _; omega) (by omega) (by omega)
  have HC1 := hid hc1
  have HC2 := hid hc2
  have HST := hid (hst1.trans hst2)
  have hcs' : Hid (Blk w r 336 cur ∧ AllInt cur ∧ cur.size = c * 4) := hid ⟨hr, hri, hcs⟩
  have hmax : Hid (c ≤ maxLen) := hid hcm
  clear hr hri hcs hp hpi hp4 hc1 hc2 hst1 hst2 k1 k2 k3 hp1 hj hz hj4 hj32
  go_enter Tryz.func292, Tryz.ntmps292
  go_wp2_with (first | rw [hov.out] | rw [HC2.out] | fail)
  go_still_tail 8, (by kernel_rfl)
  change wpList _ _ _ _ _ (w.drewN 1)
  go_wp2_with (first | rw [HC1.out] | rw [HC2.out] | fail)
  go_ret
  obtain ⟨cur2, k1, k2, k3⟩ := HST.out.blk cur hcs'.out.1 hcs'.out.2.1
  have e3 : w2.heap.size = w.heap.size := HST.out.size
  refine ⟨_, _, rfl, ⟨.inr ⟨r, cur2, rfl, .inl hsr, k1, hg, hmax.out, by rw [k2]; exact hcs'.out.2.2, k3⟩, fun k hk hne => ?_, by omega, HST.out.os, HST.out.tape, HST.out.output⟩⟩
  exact HST.out.other k (fun e => hne (by rw [e]))
/-- slices.Insert of one use. -/
theorem uins_any (h : IRow S w A n c) (hi : i ≤ n) (hp : Blk w p 336 pc) (hpi : AllInt pc) (hp4 : pc.size = 4) (hpA : A ≠ some ⟨p, 0, none⟩) (hn : n ≤ 1000000) :
    Calls Tryz.prog 292 #[.slice A n c, .int .i64 i, .slice (some ⟨p, 0, none⟩) 1 1] w fun e w' => ∃ A' c', e = .returned (.slice A' (n + 1) c') ∧ INext S w A n w' A' c' := by
  by_cases he : i = n
  · subst he
    exact uins_end h hp hpi hp4 hn
  rcases h with ⟨rfl, rfl, rfl⟩ | ⟨r, cur, rfl, hsr, hr, hnc, hcm, hcs, hri⟩
  · omega
  have hpr : p ≠ r := fun e => hpA (by rw [e])
  by_cases hg : n + 1 ≤ c
  · exact uins_room hr hri hcm hcs hsr hg (by omega) hp hpi hp4 hpr hn
  · exact uins_grow hr hri hcs hnc (by omega) (by omega) hp hpi hp4 hn
end
end Go.Proofs.YtopbojifllnckaaGreatDoor
namespace Go.Proofs.YtopbojifllnckaaGreatDoor
open Go.RowKit
attribute [local irreducible] wpQuiet
section
variable {S : Nat → Prop} {w : World} {g N n c : Nat} {A : Option Addr}
set_option maxRecDepth 100000 in
set_option maxHeartbeats 1600000 in
theorem umay_any (a b d x : Int) (w : World) : Calls Tryz.prog 291 #[.agg #[.int .i64 a, .int .i64 b, .int .i64 d, .int .i64 x]] w fun e w' => RBool e ∧ Below w.heap.size w w' := by
  have hb := hid ((Below.refl w.heap.size w).alloc (Nat.le_refl _) (.cells #[.int .i64 a, .int .i64 b, .int .i64 d, .int .i64 x] 336))
  have hh : b < 1 ∨ (1 ≤ b ∧ 65536 < b) ∨ (1 ≤ b ∧ b ≤ 65536 ∧ d < 0) ∨ (1 ≤ b ∧ b ≤ 65536 ∧ 0 ≤ d ∧ b < d) ∨ (1 ≤ b ∧ b ≤ 65536 ∧ 0 ≤ d ∧ d ≤ b ∧ x < 0) ∨ (1 ≤ b ∧ b ≤ 65536 ∧ 0 ≤ d ∧ d ≤ b ∧ 0 ≤ x) := by omega
  rcases hh with h | h | h | h | h | h
  all_goals
    first | have d0 : decide (1 ≤ b) = true := by (simp; omega) | have d0 : decide (1 ≤ b) = false := by (simp; omega) | skip
    first | have d1 : decide (b ≤ 65536) = true := by (simp; omega) | have d1 : decide (b ≤ 65536) = false := by (simp; omega) | skip
    first | have d2 : decide (0 ≤ d) = true := by (simp; omega) | have d2 : decide (0 ≤ d) = false := by (simp; omega) | skip
    first | have d3 : decide (d ≤ b) = true := by (simp; omega) | have d3 : decide (d ≤ b) = false := by (simp; omega) | skip
    first | have d4 : decide (0 ≤ x) = true := by (simp; omega) | have d4 : decide (0 ≤ x) = false := by (simp; omega) | skip
    clear h
    go_enter Tryz.func291, Tryz.ntmps291
    go_wp2_with fail
    go_ret
    exact ⟨⟨_, rfl⟩, hb.out⟩
theorem INext.usg {w4 w5 : World} {A' : Option Addr} {c' : Nat} (h0 : Below w.heap.size w w4) (hg : Blk w4 g 164 #[.slice A n c]) (hgl : g < w.heap.size) (hsg : S g) (hr : IRow S w4 A n c) (hx : INext S w4 A n w5 A' c') (hn : n ≤ N) :
    w5.cell? ⟨g, 0, none⟩ = some (.slice A n c) ∧ w5.frozen? ⟨g, 0, none⟩ = false ∧ UEnd S w g (N + 1) (w5.setCell ⟨g, 0, none⟩ (.slice A' (n + 1) c')) := by
  have hAg : A ≠ some ⟨g, 0, none⟩ := fun e => by
    rcases hr with ⟨h, _⟩ | ⟨r, cur, h1, _, h3, _⟩
    · rw [h] at e; cases e
    · rw [h1] at e; cases e; exact (hg.ne_ h3 (by decide)) rfl
  have hg5 : Blk w5 g 164 #[.slice A n c] := (hx.other g hg.lt hAg).trans hg
  have hsz : (w5.setCell ⟨g, 0, none⟩ (.slice A' (n + 1) c')).heap.size = w5.heap.size := by simp [World.setCell]
  have h04 := h0.size
  refine ⟨(hg5.cell 0).trans rfl, hg5.frozen 0, ⟨A', n + 1, c', hg5.set_ 0 _, .inl hsg, by omega, ?_⟩, ?_⟩
  · rcases hx.row with h | ⟨r', cur, h1, h2, h3, h4⟩
    · exact .inl h
    · have hne : r' ≠ g := fun e => by subst e; exact (hg5.ne_ h3 (by decide)) rfl
      refine .inr ⟨r', cur, h1, ?_, h3.far (p := ⟨g, 0, none⟩) hne _, h4⟩
      rcases h2 with h2 | ⟨h2, h2'⟩
      · exact .inl h2
      · exact .inr ⟨by omega, by rw [hsz]; exact h2'⟩
  · have h5 := hx.size
    refine setS hsg _ _ ⟨hx.os.trans h0.os, hx.tape.trans h0.tape, hx.output.trans h0.output, by omega, fun k hk hs => ?_⟩
    refine (hx.other k (by omega) fun e => ?_).trans (h0.block k hk)
    rcases hr with ⟨h, _⟩ | ⟨r, cur, h1, h2, _⟩
    · rw [h] at e; cases e
    · rw [h1] at e; cases e; exact hs h2
theorem UEnd.grow {w' : World} (h : UEnd S w g N w') : UEnd S w g (N + 1) w' := ⟨h.1.mono (fun _ h => h) (Nat.le_succ _), h.2⟩
set_option maxRecDepth 100000 in
set_option maxHeartbeats 1600000 in
theorem uadd_any (h : Usg S w g N) (hN : N ≤ 1000000) (a b d x : Int) :
    Calls Tryz.prog 225 #[.pointer (some ⟨g, 0, none⟩), .agg #[.int .i64 a, .int .i64 b, .int .i64 d, .int .i64 x]] w fun e w' => RErr e ∧ UEnd S w g (N + 1) w' := by
  have H := hid h
  have hA := hid ((Below.refl w.heap.size w).alloc (Nat.le_refl _) (.cells #[.int .i64 a, .int .i64 b, .int .i64 d, .int .i64 x] 336))
  have hone := hid ((h.stay hA.out).grow)
  clear h
  by_cases ha : a < 0
  · go_enter Tryz.func225, Tryz.ntmps225
    go_wp2_with fail
    go_ret
    exact ⟨.inr ⟨1, .inl rfl, rfl⟩, hone.out⟩
  by_cases ha2 : 4096 ≤ a
  · go_enter Tryz.func225, Tryz.ntmps225
    go_wp2_with fail
    go_ret
    exact ⟨.inr ⟨1, .inl rfl, rfl⟩, hone.out⟩
  obtain ⟨wa, hwa⟩ : ∃ wa, wa = w.alloc (.cells #[.int .i64 a, .int .i64 b, .int .i64 d, .int .i64 x] 336) := ⟨_, rfl⟩
  have hBx : Blk wa w.heap.size 336 #[.int .i64 a, .int .i64 b, .int .i64 d, .int .i64 x] := by rw [hwa]; exact Blk.new w 336 _
  have hsz : wa.heap.size = w.heap.size + 1 := by rw [hwa]; simp
  rw [← hwa] at hA
  have q0 : wa.cell? ⟨w.heap.size, 0, none⟩ = some (.int .i64 a) := (hBx.cell 0).trans rfl
  have q1 : wa.cell? ⟨w.heap.size, 1, none⟩ = some (.int .i64 b) := (hBx.cell 1).trans rfl
  have q2 : wa.cell? ⟨w.heap.size, 2, none⟩ = some (.int .i64 d) := (hBx.cell 2).trans rfl
  have q3 : wa.cell? ⟨w.heap.size, 3, none⟩ = some (.int .i64 x) := (hBx.cell 3).trans rfl
  have HBX := hid hBx
  have HSZ := hid hsz
  clear hBx hsz
  go_enter Tryz.func225, Tryz.ntmps225
  go_upto_region 1 with (fail)
  rw [← hwa]
  clear hwa
  go_wp2_with fail
  refine (umay_any a b d x wa).mono ?_
  rintro e w2 ⟨⟨t, rfl⟩, h2⟩
  have HB2 := hid (hA.out.trans (h2.mono (by rw [HSZ.out]; omega)))
  have HX2 := hid (HBX.out.below h2 (by rw [HSZ.out]; omega))
  have p0 : w2.cell? ⟨w.heap.size, 0, none⟩ = some (.int .i64 a) := (HX2.out.cell 0).trans rfl
  clear h2 q0 q1 q2 q3
  cases t with
  | false =>
    have hst := hid ((H.out.stay HB2.out).grow)
    go_wp2_with fail
    go_ret
    exact ⟨.inr ⟨1, .inl rfl, rfl⟩, hst.out⟩
  | true =>
    have H2 := hid (H.out.keep (w' := w2) fun k _ hk => HB2.out.block k hk)
    go_wp2_with fail
    refine (ufind_any H2.out hN a).mono ?_
    rintro e w3 ⟨A, n, c, hD, ⟨i, t, r1, r2, rfl⟩, hb⟩
    have HB3 := hid (HB2.out.trans (hb.mono HB2.out.size))
    have HX3 := hid (HX2.out.below hb HX2.out.lt)
    have HG3 := hid (show Blk w3 g 164 #[.slice A n c] from hD.out.1.below hb hD.out.1.lt)
    have HR3 := hid (hD.out.2.2.2.keep (w' := w3) fun k _ hk => hb.block k hk)
    clear hb p0
    cases t with
    | true =>
      have hst := hid ((H.out.stay HB3.out).grow)
      clear r2
      go_wp2_with fail
      go_ret
      exact ⟨.inr ⟨6, .inr (.inr (.inl rfl)), rfl⟩, hst.out⟩
    | false =>
      clear r2
      have c0 : w3.cell? ⟨g, 0, none⟩ = some (.slice A n c) := (HG3.out.cell 0).trans rfl
      have s0 : w3.cell? ⟨w.heap.size, 0, none⟩ = some (.int .i64 a) := (HX3.out.cell 0).trans rfl
      have s1 : w3.cell? ⟨w.heap.size, 1, none⟩ = some (.int .i64 b) := (HX3.out.cell 1).trans rfl
      have s2 : w3.cell? ⟨w.heap.size, 2, none⟩ = some (.int .i64 d) := (HX3.out.cell 2).trans rfl
      have s3 : w3.cell? ⟨w.heap.size, 3, none⟩ = some (.int .i64 x) := (HX3.out.cell 3).trans rfl
      have hglt : g < w3.heap.size := HG3.out.lt
      have hxlt : w.heap.size < w3.heap.size := HX3.out.lt
      have hcall : Hid (∀ W4, W4 = (w3.alloc (.cells #[.int .i64 a, .int .i64 b, .int .i64 d, .int .i64 x] 336)).drew → Calls Tryz.prog 292 #[.slice A n c, .int .i64 i, .slice (some ⟨w3.heap.size, 0, none⟩) 1 1] W4 fun e w5 => ∃ A' c', e = .returned (.slice A' (n + 1) c') ∧ w5.cell? ⟨g, 0, none⟩ = some (.slice A n c) ∧ w5.frozen? ⟨g, 0, none⟩ = false ∧ (w5.cell? ⟨w.heap.size, 0, none⟩ = some (.int .i64 a) ∧ w5.cell? ⟨w.heap.size, 1, none⟩ = some (.int .i64 b) ∧ w5.cell? ⟨w.heap.size, 2, none⟩ = some (.int .i64 d) ∧ w5.cell? ⟨w.heap.size, 3, none⟩ = some (.int .i64 x)) ∧ UEnd S w g (N + 1) (w5.setCell ⟨g, 0, none⟩ (.slice A' (n + 1) c'))) := by
        show ∀ W4, _
        intro W4 hW4
        have hb4 : Below w3.heap.size w3 W4 := by rw [hW4]; exact ((Below.refl w3.heap.size w3).alloc (Nat.le_refl _) _).drew
        have hp4 : Blk W4 w3.heap.size 336 #[.int .i64 a, .int .i64 b, .int .i64 d, .int .i64 x] := by rw [hW4]; exact Blk.new w3 336 _
        have hr4 := HR3.out.keep (w' := W4) fun k _ hk => hb4.block k hk
        have hg4 := HG3.out.below hb4 HG3.out.lt
        have hnN : n ≤ N := hD.out.2.2.1
        refine (uins_any hr4 r1 hp4 ?_ rfl ?_ (by omega)).mono ?_
        · intro j hj
          have hj : j < 4 := hj
          match j, hj with
          | 0, _ => exact ⟨a, rfl⟩
          | 1, _ => exact ⟨b, rfl⟩
          | 2, _ => exact ⟨d, rfl⟩
          | 3, _ => exact ⟨x, rfl⟩
        · intro e
          rcases HR3.out with ⟨h, _⟩ | ⟨r, cur, h1, _, h3, _⟩
          · rw [h] at e; cases e
          · rw [h1] at e; cases e; exact Nat.lt_irrefl _ h3.lt
        · rintro e w5 ⟨A', c', rfl, hx⟩
          obtain ⟨u1, u2, u3⟩ := hx.usg (HB3.out.trans (hb4.mono HB3.out.size)) hg4 (by obtain ⟨_, _, _, h1, _⟩ := H.out; exact h1.lt) hD.out.2.1 hr4 hnN
          have hAx : A ≠ some ⟨w.heap.size, 0, none⟩ := fun e => by
            obtain ⟨A0, n0, c0', g1, g2, g3, g4⟩ := H.out
            have g5 : Blk w3 g 164 #[.slice A0 n0 c0'] := g1.below HB3.out g1.lt
            have g6 := g5.symm.trans HG3.out
            simp only [Option.some.injEq, Obj.cells.injEq, Array.mk.injEq, List.cons.injEq, Value.slice.injEq] at g6
            rw [← g6.1.1.1] at e
            rcases g4 with ⟨h, _⟩ | ⟨r, cur, h1, _, h3, _⟩
            · rw [h] at e; cases e
            · rw [h1] at e; cases e; exact Nat.lt_irrefl _ h3.lt
          have hx5 := (hx.other _ (Nat.lt_of_lt_of_le HX3.out.lt hb4.size) hAx).trans (HX3.out.below hb4 HX3.out.lt)
          have hx5' : Blk w5 w.heap.size 336 #[.int .i64 a, .int .i64 b, .int .i64 d, .int .i64 x] := hx5
          exact ⟨A', c', rfl, u1, u2, ⟨(hx5'.cell 0).trans rfl, (hx5'.cell 1).trans rfl, (hx5'.cell 2).trans rfl, (hx5'.cell 3).trans rfl⟩, u3⟩
      clear r1
      go_upto_region 6 with (fail)
      go_region_with ((go_at_call 292; refine (hcall.out _ rfl).mono ?_; rintro e w5 ⟨A', c', rfl, t0, t1, ⟨t4, t5, t6, t7⟩, t2⟩; have T2 := hid t2; clear t2))
      all_goals
        go_wp2_with fail
        go_ret
        exact ⟨.inl rfl, T2.out⟩
set_option maxRecDepth 100000 in
set_option maxHeartbeats 1600000 in
theorem uAdd_any (h : Usg S w g N) (hN : N ≤ 1000000) (a b d x : Int) :
    Calls Tryz.prog 159 #[.pointer (some ⟨g, 0, none⟩), .int .i64 a, .int .i64 b, .int .i64 d, .int .i64 x] w fun e w' => RInt e ∧ UEnd S w g (N + 1) w' := by
  have hc := hid (uadd_any h hN a b d x)
  clear h
  go_enter Tryz.func159, Tryz.ntmps159
  go_wp2_with fail
  refine hc.out.mono ?_
  rintro e w1 ⟨he, h1⟩
  rcases he with rfl | ⟨k, hk, rfl⟩
  · have H1 := hid h1
    clear h1
    go_wp2_with fail
    refine (errno_nil w1).mono ?_
    rintro e w2 ⟨⟨v, rfl⟩, rfl⟩
    go_wp2_with fail
    go_ret
    exact ⟨⟨v, rfl⟩, H1.out⟩
  · have H1 := hid h1
    have hc2 := hid (errno_any hk w1)
    clear h1
    unfold flt at *
    go_wp2_with fail
    refine hc2.out.mono ?_
    rintro e w2 ⟨⟨v, rfl⟩, h2⟩
    have H2 := hid (H1.out.then_ h2)
    clear h2
    go_wp2_with fail
    go_ret
    exact ⟨⟨v, rfl⟩, H2.out⟩
end
end Go.Proofs.YtopbojifllnckaaGreatDoor
namespace Go.Proofs.YtopbojifllnckaaGreatDoor
open Go.RowKit
attribute [local irreducible] wpQuiet
theorem keyed3 : Maps.Keyed Tryz.prog 3 := Maps.int_keyed Tryz.underlying3
theorem wf_key3 {x : Int} (h : (Lit.int .i64 x).wf = true) : keyOf Tryz.prog 3 (.int .i64 x) = some (.int .i64 x) := Maps.keyOf_int_mk Tryz.underlying3 h
end Go.Proofs.YtopbojifllnckaaGreatDoor
namespace Go.Proofs.YtopbojifllnckaaGreatDoor
open Go.RowKit
attribute [local irreducible] wpQuiet
theorem wf_i64 {x : Int} (h : -9223372036854775808 ≤ x) (h' : x < 9223372036854775808) : (Lit.int .i64 x).wf = true := by
  show (decide (IntKind.i64.min ≤ x) && decide (x ≤ IntKind.i64.max)) = true
  have h1 : IntKind.i64.min = -9223372036854775808 := rfl
  have h2 : IntKind.i64.max = 9223372036854775807 := rfl
  rw [h1, h2]
  simp
  omega
end Go.Proofs.YtopbojifllnckaaGreatDoor
