/- Rows of uses: what copy, append in place and clear leave. usage: slices.Delete, Drop. usage: slices.Insert of one use. -/
import Derived.Laws.IdiomCopy
import Derived.Laws.CopyOwn
import Derived.Lib.AppendZeros
import Derived.Lib.AppendZerosOnto
import Derived.Lib.Overlaps
import Derived.Test.YtopbojifllnckaaGreatDoorG26
namespace Go.Proofs.YtopbojifllnckaaGreatDoor
open Go.RowKit
attribute [local irreducible] wpQuiet
/-- Block r, of numbers, has turned; it is of numbers still. -/
structure IStep (w : World) (r : Nat) (w' : World) : Prop where
  blk : ∀ cur, Blk w r 336 cur → AllInt cur → ∃ cur', Blk w' r 336 cur' ∧ cur'.size = cur.size ∧ AllInt cur'
  other : ∀ k, k ≠ r → w'.heap[k]? = w.heap[k]?
  size : w'.heap.size = w.heap.size
  os : w'.os = w.os
  tape : w'.tape = w.tape
  output : w'.output = w.output
def IntL (vs : List Value) : Prop := ∀ v ∈ vs, ∃ n : Int, v = .int .i64 n
theorem IntL.one {vs : List Value} (h : IntL vs) : ∀ v ∈ vs, v.oneCell' = true := fun v hv => by
  obtain ⟨n, rfl⟩ := h v hv
  rfl
section
variable {w w' w2 : World} {r : Nat}
theorem IStep.refl (w : World) (r : Nat) : IStep w r w := ⟨fun cur h k => ⟨cur, h, rfl, k⟩, fun _ _ => rfl, rfl, rfl, rfl, rfl⟩
theorem IStep.trans (h : IStep w r w') (k : IStep w' r w2) : IStep w r w2 :=
  ⟨fun cur h1 h2 => by
    obtain ⟨c1, h3, h4, h5⟩ := h.blk cur h1 h2
    obtain ⟨c2, h6, h7, h8⟩ := k.blk c1 h3 h5
    exact ⟨c2, h6, h7.trans h4, h8⟩,
   fun j hj => (k.other j hj).trans (h.other j hj), k.size.trans h.size, k.os.trans h.os, k.tape.trans h.tape, k.output.trans h.output⟩
theorem IStep.cell (w : World) (r o : Nat) (n : Int) : IStep w r (w.setCell ⟨r, o, none⟩ (.int .i64 n)) :=
  ⟨fun cur h1 h2 => ⟨_, h1.set_ o _, by simp, h2.set o n⟩, fun k hk => Below.heap_setCell w _ _ k hk, by simp [World.setCell], rfl, rfl, rfl⟩
theorem IStep.cells : ∀ (vs : List Value) (w : World) (o : Nat), IntL vs → IStep w r (w.setCells r o vs)
  | [], w, _, _ => IStep.refl w r
  | v :: vs, w, o, h => by
    obtain ⟨n, rfl⟩ := h v List.mem_cons_self
    exact (IStep.cell w r o n).trans (IStep.cells vs _ (o + 1) fun u hu => h u (List.mem_cons_of_mem _ hu))
theorem IStep.row {cur : Array Value} (h : Blk w r 336 cur) {vs : List Value} (hv : IntL vs) (hl : vs.length = cur.size) : IStep w r (w.setRow r vs.toArray) :=
  ⟨fun cur' h1 _ => by
    have e : cur' = cur := by
      unfold Blk at h h1
      rw [h] at h1
      injection h1 with h1
      injection h1 with h1
      exact h1.symm
    subst e
    refine ⟨_, setRow_heap w r _ _ _ _ h, by simp [hl], fun i hi => ?_⟩
    have hi' : i < vs.length := by simpa using hi
    obtain ⟨n, hn⟩ := hv vs[i] (List.getElem_mem hi')
    exact ⟨n, by simp [hi', hn]⟩,
   fun k hk => setRow_other w r k _ hk, by simp, rfl, rfl, rfl⟩
theorem AllInt.list {cur : Array Value} (h : AllInt cur) : IntL cur.toList := fun v hv => by
  obtain ⟨i, hi, rfl⟩ := List.getElem_of_mem hv
  obtain ⟨n, hn⟩ := h i (by simpa using hi)
  refine ⟨n, ?_⟩
  have hi' : i < cur.size := by simpa using hi
  rw [Array.getElem?_eq_getElem hi'] at hn
  simpa using Option.some.inj hn
theorem IntL.sub {vs us : List Value} (h : IntL vs) (hs : ∀ u ∈ us, u ∈ vs) : IntL us := fun u hu => h u (hs u hu)
/-- What is read of a block of numbers. -/
theorem blk_reads {cur : Array Value} (h : Blk w r 336 cur) (o m : Nat) : ∀ j v, ((cur.toList.drop o).take m)[j]? = some v → w.cell? ((⟨r, o, none⟩ : Addr).add j) = some v := fun j v hj => by
  have ha : (⟨r, o, none⟩ : Addr).add j = ⟨r, o + j, none⟩ := by unfold Addr.add; split <;> simp_all
  rw [ha, h.cell]
  rw [List.getElem?_take] at hj
  split at hj
  · rw [List.getElem?_drop] at hj
    simpa using hj
  · cases hj
theorem info336 : (Tryz.prog.info? 336).map (fun i => (i.zero, i.size, i.bytes)) = some (some (.agg #[.int .i64 0, .int .i64 0, .int .i64 0, .int .i64 0]), 4, 32) := by kernel_rfl
/-- copy of uses. -/
theorem copyI {rs o os dl dc sl sc m : Nat} {cur curs : Array Value} (ty : TypeId) (hd : Blk w r 336 cur) (hs : Blk w rs 336 curs) (hsi : AllInt curs) (hm : m = Nat.min sl dl) (h1 : o + m * 4 ≤ cur.size) (h2 : os + m * 4 ≤ curs.size) :
    ∃ w', (Builtin.copy_ #[162, 162] ty #[.slice (some ⟨r, o, none⟩) dl dc, .slice (some ⟨rs, os, none⟩) sl sc]).run Tryz.prog w = .ok (.int .i64 m) w' ∧ IStep w r w' := by
  obtain ⟨i, hi, hzz⟩ := Option.map_eq_some_iff.1 info336
  simp only [Prod.mk.injEq] at hzz
  obtain ⟨_, hi4, _⟩ := hzz
  have hnl : ((curs.toList.drop os).take (m * 4)).length = m * 4 := by
    rw [List.length_take, List.length_drop, Array.length_toList]
    omega
  have hni : IntL ((curs.toList.drop os).take (m * 4)) := hsi.list.sub fun u hu => List.mem_of_mem_drop (List.mem_of_mem_take hu)
  have hf := run_firstCells_some (P := Tryz.prog) w 4 m ⟨rs, os, none⟩ sl sc _ hnl (blk_reads hs os (m * 4))
  have hst := run_storeCells_cells (P := Tryz.prog) r o ((curs.toList.drop os).take (m * 4)) 0 w (fun j hj => by
    rw [hnl] at hj
    rw [hd.cell]
    simp
    omega) (fun j _ => hd.frozen _) hni.one
  refine ⟨w.setCells r o ((curs.toList.drop os).take (m * 4)), ?_, IStep.cells _ _ _ hni⟩
  simp only [Nat.add_zero] at hst
  subst hm
  simp [Builtin.copy_, run_underlying Tryz.underlying162, Builtin.lenOf, sizeOf, typeInfo, hi, hi4, hf, hst, goInt]
/-- One use is wiped. -/
theorem clearI {o c : Nat} {cur : Array Value} (ty : TypeId) (hd : Blk w r 336 cur) (h1 : o + 4 ≤ cur.size) :
    ∃ w', (Builtin.clear_ #[162] ty #[.slice (some ⟨r, o, none⟩) 1 c]).run Tryz.prog w = .ok (.tuple #[]) w' ∧ IStep w r w' := by
  obtain ⟨i, hi, hzz⟩ := Option.map_eq_some_iff.1 info336
  simp only [Prod.mk.injEq] at hzz
  obtain ⟨hz, hi4, _⟩ := hzz
  have hni : IntL [.int .i64 0, .int .i64 0, .int .i64 0, .int .i64 0] := fun v hv => by
    simp only [List.mem_cons, List.not_mem_nil, or_false, or_self] at hv
    exact ⟨0, hv⟩
  have hst := run_storeCells_cells (P := Tryz.prog) r o [.int .i64 0, .int .i64 0, .int .i64 0, .int .i64 0] 0 w (fun j hj => by
    rw [hd.cell]
    simp at hj ⊢
    omega) (fun j _ => hd.frozen _) hni.one
  have hzc : (Builtin.zeroCells (Value.agg #[.int .i64 0, .int .i64 0, .int .i64 0, .int .i64 0]).cells 1).toList = [.int .i64 0, .int .i64 0, .int .i64 0, .int .i64 0] := by kernel_rfl
  refine ⟨_, ?_, IStep.cells _ w o hni⟩
  simp only [Nat.add_zero] at hst
  simp [Builtin.clear_, run_underlying Tryz.underlying162, zeroValue, typeInfo, hi, hz, hzc, hst]
/-- append in place. -/
theorem roomI {n c m os cs : Nat} {cur : Array Value} (ty : TypeId) (hd : Blk w r 336 cur) (hdi : AllInt cur) (hc : cur.size = c * 4) (hroom : n + m ≤ c) (h2 : os + m * 4 ≤ cur.size) :
    ∃ w', (Builtin.append_ #[162, 162] ty #[.slice (some ⟨r, 0, none⟩) n c, .slice (some ⟨r, os, none⟩) m cs]).run Tryz.prog w = .ok (.slice (some ⟨r, 0, none⟩) (n + m) c) w' ∧ IStep w r w' := by
  obtain ⟨i, hi, hzz⟩ := Option.map_eq_some_iff.1 info336
  simp only [Prod.mk.injEq] at hzz
  obtain ⟨_, hi4, _⟩ := hzz
  have hnl : ((cur.toList.drop os).take (m * 4)).length = m * i.size := by
    rw [hi4, List.length_take, List.length_drop, Array.length_toList]
    omega
  have hni : IntL ((cur.toList.drop os).take (m * 4)) := hdi.list.sub fun u hu => List.mem_of_mem_drop (List.mem_of_mem_take hu)
  have hr := run_append_room (P := Tryz.prog) w 162 ty 336 i Tryz.underlying162 hi r n c cur hd ⟨r, os, none⟩ m cs _ hnl (blk_reads hd os (m * 4)) hni.one hroom (by rw [hnl, hi4]; omega)
  refine ⟨_, hr, IStep.row hd (fun u hu => ?_) ?_⟩
  · simp only [List.mem_append] at hu
    rcases hu with (hu | hu) | hu
    · exact hdi.list u (List.mem_of_mem_take hu)
    · exact hni u hu
    · exact hdi.list u (List.mem_of_mem_drop hu)
  · rw [List.length_append, List.length_append, hnl, hi4, List.length_take, List.length_drop, Array.length_toList]
    omega
end
end Go.Proofs.YtopbojifllnckaaGreatDoor
namespace Go.Proofs.YtopbojifllnckaaGreatDoor
open Go.RowKit
attribute [local irreducible] wpQuiet
section
variable {w w' : World} {r : Nat}
set_option maxRecDepth 100000 in
set_option maxHeartbeats 1600000 in
theorem udel_any {m c i : Nat} {cur : Array Value} (hb : Blk w r 336 cur) (hbi : AllInt cur) (hc : cur.size = c * 4) (hn : m + 1 ≤ c) (hi : i ≤ m) (hs : m ≤ 1000000) :
    Calls Tryz.prog 227 #[.slice (some ⟨r, 0, none⟩) (m + 1) c, .int .i64 i, .int .i64 ((i : Int) + 1)] w fun e w' => e = .returned (.slice (some ⟨r, 0, none⟩) m c) ∧ IStep (w.drewN 1) r w' := by
  have hi0 : (0 : Int) ≤ (i : Int) := by omega
  have hi1 : (i : Int) + 1 ≤ ((m + 1 : Nat) : Int) := by omega
  have hi2 : ((m + 1 : Nat) : Int) ≤ (c : Int) := by omega
  have hi3 : (i : Int) ≤ (c : Int) := by omega
  have hi4 : (i : Int) + 1 ≤ (c : Int) := by omega
  have hi5 : (0 : Int) ≤ (i : Int) + 1 := by omega
  have hne : ((i : Int) == (i : Int) + 1) = false := by simp; omega
  obtain ⟨os, hif, hos⟩ : ∃ os, Hid ((if c = i + 1 then some (⟨r, 0, none⟩ : Addr) else some ⟨r, (i + 1) * 4, none⟩) = some ⟨r, os, none⟩) ∧ os + (m - i) * 4 ≤ cur.size := by
    by_cases h : c = i + 1
    · refine ⟨0, ?_, by omega⟩
      show _ = _
      rw [if_pos h]
    · refine ⟨(i + 1) * 4, ?_, by omega⟩
      show _ = _
      rw [if_neg h]
  obtain ⟨w1, hrun, hst⟩ := roomI (w := w.drewN 1) (n := i) (m := m - i) (cs := c - (i + 1)) 162 hb hbi hc (by omega) hos
  have hlen : i + (m - i) = m := by omega
  rw [hlen] at hrun
  obtain ⟨cur1, hb1, hc1, hi1'⟩ := hst.blk cur hb hbi
  obtain ⟨w2, hclr, hst2⟩ := clearI (w := w1) (o := m * 4) (c := c - m) 0 hb1 (by omega)
  have HRUN := hid hrun
  have HST := hid (hst.trans hst2)
  have hm0 : (0 : Int) ≤ (m : Int) := by omega
  have hm1 : (m : Int) ≤ (m : Int) + 1 := by omega
  have hmc : (m : Int) + 1 ≤ (c : Int) := by omega
  clear hb hbi hc hrun hst hst2 hb1 hc1 hi1' hlen hos
  go_enter Tryz.func227, Tryz.ntmps227
  go_wp2_with fail
  go_still_tail 6, (by kernel_rfl)
  change wpList _ _ _ _ _ (w.drewN 1)
  rw [hif.out]
  refine Lib.wpList_append_run _ rfl (.tmp 22) (.tmp 25) 162 162 rfl _ _ rfl rfl _ _ HRUN.out ?_
  go_wp2_with fail
  go_ret
  exact ⟨rfl, HST.out⟩
end
section
variable {S : Nat → Prop} {w : World} {g N : Nat}
/-- A row has turned: the uses behind it. -/
theorem IStep.usg {w1 w2 : World} {r n c n' : Nat} (hb : Below w.heap.size w w1) (hg : Blk w1 g 164 #[.slice (some ⟨r, 0, none⟩) n c]) (hsg : S g) (hsr : S r) (hr : IRow S w1 (some ⟨r, 0, none⟩) n c) (hst : IStep w1 r w2) (hn' : n' ≤ c) (hN : n' ≤ N) (v : Value)
    (hv : v = .slice (some ⟨r, 0, none⟩) n' c) : UEnd S w g N (w2.setCell ⟨g, 0, none⟩ v) := by
  subst hv
  rcases hr with ⟨h, _⟩ | ⟨r', cur, h1, _, h3, _, h5, h6, h7⟩
  · cases h
  cases h1
  have hne : g ≠ r := hg.ne_ h3 (by decide)
  obtain ⟨cur', k1, k2, k3⟩ := hst.blk cur h3 h7
  have hg2 : Blk w2 g 164 #[.slice (some ⟨r, 0, none⟩) n c] := (hst.other g hne).trans hg
  have hsz : (w2.setCell ⟨g, 0, none⟩ (.slice (some ⟨r, 0, none⟩) n' c)).heap.size = w1.heap.size := by simp [World.setCell, hst.size]
  refine ⟨⟨_, n', c, hg2.set_ 0 _, .inl hsg, hN, .inr ⟨r, cur', rfl, .inl hsr, k1.far (p := ⟨g, 0, none⟩) (Ne.symm hne) _, hn', h5, by rw [k2]; exact h6, k3⟩⟩, ?_⟩
  refine setS hsg _ _ ⟨hst.os.trans hb.os, hst.tape.trans hb.tape, hst.output.trans hb.output, by rw [hst.size]; exact hb.size, fun k hk hs => ?_⟩
  exact (hst.other k (fun e => hs (e ▸ hsr))).trans (hb.block k hk)
set_option maxRecDepth 100000 in
set_option maxHeartbeats 1600000 in
theorem uDrop_any (h : Usg S w g N) (hN : N ≤ 1000000) (x : Int) :
    Calls Tryz.prog 161 #[.pointer (some ⟨g, 0, none⟩), .int .i64 x] w fun e w' => RBool e ∧ UEnd S w g N w' := by
  have hc := hid (ufind_any h hN x)
  have H := hid h
  clear h
  go_enter Tryz.func161, Tryz.ntmps161
  go_wp2_with fail
  refine hc.out.mono ?_
  rintro e w1 ⟨A, n, c, hD, ⟨i, t, q1, q2, rfl⟩, hb⟩
  have hst := hid (H.out.stay hb)
  cases t with
  | false =>
    clear hb q2
    go_wp2_with fail
    go_ret
    exact ⟨⟨_, rfl⟩, hst.out⟩
  | true =>
    have hin := q2 rfl
    have hb1 : Blk w1 g 164 #[.slice A n c] := hD.out.1.below hb hD.out.1.lt
    have hr1 : IRow S w1 A n c := hD.out.2.2.2.keep fun k _ hk => hb.block k hk
    rcases hr1 with ⟨_, h, _⟩ | ⟨r, cur, rfl, hsr, h3, h4, h5, h6, h7⟩
    · omega
    obtain ⟨m, rfl⟩ : ∃ m, n = m + 1 := ⟨n - 1, by omega⟩
    have c0 : w1.cell? ⟨g, 0, none⟩ = some (.slice (some ⟨r, 0, none⟩) (m + 1) c) := (hb1.cell 0).trans rfl
    have hnN : m + 1 ≤ N := hD.out.2.2.1
    have hdel := hid (udel_any (i := i) h3 h7 h6 h4 (by omega) (by omega))
    have hne : g ≠ r := hb1.ne_ h3 (by decide)
    have hfin : Hid (∀ w2, IStep (w1.drewN 1) r w2 → w2.cell? ⟨g, 0, none⟩ = some (.slice (some ⟨r, 0, none⟩) (m + 1) c) ∧ w2.frozen? ⟨g, 0, none⟩ = false ∧ UEnd S w g N (w2.setCell ⟨g, 0, none⟩ (.slice (some ⟨r, 0, none⟩) m c))) := fun w2 hst2 => by
      have hg2 : Blk w2 g 164 #[.slice (some ⟨r, 0, none⟩) (m + 1) c] := (hst2.other g hne).trans hb1
      exact ⟨(hg2.cell 0).trans rfl, hg2.frozen 0, hst2.usg (below_drewN hb 1) hb1 hD.out.2.1 hsr (.inr ⟨r, cur, rfl, hsr, h3, h4, h5, h6, h7⟩) (by omega) (by omega) _ rfl⟩
    have hiN : (i : Int) + 1 ≤ 1000001 := by omega
    clear hb q2 hb1 h3 h7 h6 h5 h4 q1
    go_wp2_with fail
    refine hdel.out.mono ?_
    rintro e w2 ⟨rfl, h2⟩
    obtain ⟨z1, z2, z3⟩ := hfin.out w2 h2
    have Z3 := hid z3
    clear h2 z3
    go_wp2_with fail
    go_ret
    exact ⟨⟨_, rfl⟩, Z3.out⟩
end
end Go.Proofs.YtopbojifllnckaaGreatDoor
namespace Go.Proofs.YtopbojifllnckaaGreatDoor
open Go.RowKit
attribute [local irreducible] wpQuiet
/-- A row with one use more. -/
structure INext (S : Nat → Prop) (w : World) (A : Option Addr) (n : Nat) (w' : World) (A' : Option Addr) (c' : Nat) : Prop where
  row : IRow (Grow S w w') w' A' (n + 1) c'
  other : ∀ k, k < w.heap.size → A ≠ some ⟨k, 0, none⟩ → w'.heap[k]? = w.heap[k]?
  size : w.heap.size ≤ w'.heap.size
  os : w'.os = w.os
  tape : w'.tape = w.tape
  output : w'.output = w.output
theorem allInt_list {l : List Value} (h : IntL l) : AllInt l.toArray := fun i hi => by
  have hi' : i < l.length := by simpa using hi
  obtain ⟨n, hn⟩ := h l[i] (List.getElem_mem hi')
  exact ⟨n, by simp [hi', hn]⟩
theorem zero_ints (k : Nat) : IntL (Builtin.zeroCells (Value.agg #[.int .i64 0, .int .i64 0, .int .i64 0, .int .i64 0]).cells k).toList := fun v hv => by
  unfold Builtin.zeroCells at hv
  simp only [Array.toList_map, List.mem_map] at hv
  obtain ⟨i, _, rfl⟩ := hv
  have e : (Value.agg #[.int .i64 0, .int .i64 0, .int .i64 0, .int .i64 0]).cells = #[.int .i64 0, .int .i64 0, .int .i64 0, .int .i64 0] := rfl
  rw [e]
  have h4 : i % (#[.int .i64 0, .int .i64 0, .int .i64 0, .int .i64 0] : Array Value).size < 4 := Nat.mod_lt _ (by decide)
  generalize i % (#[.int .i64 0, .int .i64 0, .int .i64 0, .int .i64 0] : Array Value).size = j at h4
  match j, h4 with
  | 0, _ => exact ⟨0, rfl⟩
  | 1, _ => exact ⟨0, rfl⟩
  | 2, _ => exact ⟨0, rfl⟩
  | 3, _ => exact ⟨0, rfl⟩
theorem size_zeros (k : Nat) : (Builtin.zeroCells (Value.agg #[.int .i64 0, .int .i64 0, .int .i64 0, .int .i64 0]).cells k).size = k * 4 := by
  rw [size_zeroCells]
  rfl
section
variable {S : Nat → Prop} {w : World} {r p n c i : Nat} {A : Option Addr} {cur pc : Array Value}
/-- A new row of numbers. -/
theorem new_row (w : World) {l1 l2 : List Value} {k m c' : Nat} (arr : Array Value) (harr : arr.toList = l1 ++ l2) (h1 : IntL l1) (h2 : IntL l2) (hl1 : l1.length = k * 4) (hl2 : l2.length = m * 4) (hc : c' = k + m) (hm : c' ≤ maxLen) (hn : n + 1 ≤ c') :
    INext S w A n (w.drew.alloc (.cells arr 336)) (some ⟨w.heap.size, 0, none⟩) c' := by
  have ha : arr = (l1 ++ l2).toArray := Array.ext' (by rw [harr])
  subst ha
  refine ⟨.inr ⟨w.heap.size, _, rfl, .inr ⟨Nat.le_refl _, by simp⟩, Blk.new w.drew 336 _, hn, hm, by simp [hl1, hl2]; omega, allInt_list fun v hv => ?_⟩, fun k hk _ => Below.heap_alloc w.drew _ k hk, by simp, rfl, rfl, rfl⟩
  rcases List.mem_append.1 hv with hv | hv
  · exact h1 v hv
  · exact h2 v hv
/-- append of one use at the end. -/
theorem insEnd (h : IRow S w A n c) (hp : Blk w p 336 pc) (hpi : AllInt pc) (hp4 : pc.size = 4) (hn : n ≤ 1000000) :
    ∃ A' c' w', (Builtin.append_ #[162, 162] 162 #[.slice A n c, .slice (some ⟨p, 0, none⟩) 1 1]).run Tryz.prog w = .ok (.slice A' (n + 1) c') w' ∧ INext S w A n w' A' c' := by
  obtain ⟨j, hj, hzz⟩ := Option.map_eq_some_iff.1 info336
  simp only [Prod.mk.injEq] at hzz
  obtain ⟨hz, h4, h32⟩ := hzz
  have hpl : pc.toList.length = 1 * j.size := by rw [Array.length_toList, hp4, h4]
  have hps : ∀ k v, pc.toList[k]? = some v → w.cell? ((⟨p, 0, none⟩ : Addr).add k) = some v := fun k v hk => by
    rw [add_plain, hp.cell, ← hk]
    simp
  rcases h with ⟨rfl, rfl, rfl⟩ | ⟨r, cur, rfl, hsr, hr, hnc, hcm, hcs, hri⟩
  · have hrun := run_append_nil (P := Tryz.prog) w 162 162 336 j _ Tryz.underlying162 hj hz ⟨p, 0, none⟩ 1 1 pc.toList hpl hps (by omega) (by omega) (by omega)
    have hg := grownCap_ge w 1 0 336
    have hgm := grownCap_le_maxLen w 1 0 336 (by decide)
    refine ⟨_, _, _, hrun, ?_⟩
    exact new_row (S := S) (A := none) (n := 0) w (l1 := pc.toList) (l2 := (Builtin.zeroCells (Value.agg #[.int .i64 0, .int .i64 0, .int .i64 0, .int .i64 0]).cells (grownCap w 1 0 336 - 1)).toList) (k := 1) (m := grownCap w 1 0 336 - 1) (c' := grownCap w 1 0 336) _ (by simp) hpi.list (zero_ints _) (by rw [Array.length_toList, hp4]) (by rw [Array.length_toList, size_zeros]) (by omega) hgm (by omega)
  · by_cases hroom : n + 1 ≤ c
    · have hrun := run_append_room (P := Tryz.prog) w 162 162 336 j Tryz.underlying162 hj r n c cur hr ⟨p, 0, none⟩ 1 1 pc.toList hpl hps hpi.list.one hroom (by rw [hpl, h4]; omega)
      have hl : (cur.toList.take (n * j.size) ++ pc.toList ++ cur.toList.drop (n * j.size + pc.toList.length)).length = cur.size := by
        rw [List.length_append, List.length_append, hpl, h4, List.length_take, List.length_drop, Array.length_toList]
        omega
      have hst := IStep.row hr (vs := cur.toList.take (n * j.size) ++ pc.toList ++ cur.toList.drop (n * j.size + pc.toList.length)) (fun u hu => by
        simp only [List.mem_append] at hu
        rcases hu with (hu | hu) | hu
        · exact hri.list u (List.mem_of_mem_take hu)
        · exact hpi.list u hu
        · exact hri.list u (List.mem_of_mem_drop hu)) hl
      obtain ⟨cur', k1, k2, k3⟩ := hst.blk cur hr hri
      exact ⟨_, _, _, hrun, ⟨.inr ⟨r, cur', rfl, .inl hsr, k1, hroom, hcm, by rw [k2]; exact hcs, k3⟩, fun k _ hk => hst.other k (fun e => hk (by rw [e])), by rw [hst.size]; exact Nat.le_refl _, hst.os, hst.tape, hst.output⟩⟩
    · have hol : (cur.toList.take (n * 4)).length = n * j.size := by rw [h4, List.length_take, Array.length_toList]; omega
      have hos : ∀ k v, (cur.toList.take (n * 4))[k]? = some v → w.cell? ((⟨r, 0, none⟩ : Addr).add k) = some v := fun k v hk => by
        have := blk_reads hr 0 (n * 4) k v (by simpa using hk)
        exact this
      have hrun := run_append_grow (P := Tryz.prog) w 162 162 336 j _ Tryz.underlying162 hj hz ⟨r, 0, none⟩ n c _ hol hos ⟨p, 0, none⟩ 1 1 pc.toList hpl hps (by omega) (by omega) (growslice_fits (by omega) (by rw [h32]; omega))
      have hg := grownCap_ge w (n + 1) c 336
      have hgm := grownCap_le_maxLen w (n + 1) c 336 (by simp only [maxLen]; omega)
      refine ⟨_, _, _, hrun, ?_⟩
      exact new_row (S := S) (A := some ⟨r, 0, none⟩) (n := n) w (l1 := cur.toList.take (n * 4) ++ pc.toList) (l2 := (Builtin.zeroCells (Value.agg #[.int .i64 0, .int .i64 0, .int .i64 0, .int .i64 0]).cells (grownCap w (n + 1) c 336 - (n + 1))).toList) (k := n + 1) (m := grownCap w (n + 1) c 336 - (n + 1)) (c' := grownCap w (n + 1) c 336) _ (by simp) (fun u hu => by
          rcases List.mem_append.1 hu with hu | hu
          · exact hri.list u (List.mem_of_mem_take hu)
          · exact hpi.list u hu) (zero_ints _) (by rw [List.length_append, hol, h4, Array.length_toList, hp4]; omega) (by rw [Array.length_toList, size_zeros]) (by omega) hgm (by omega)
end
end Go.Proofs.YtopbojifllnckaaGreatDoor
