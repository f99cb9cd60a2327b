/- replies: a client's calls in memory; find. replies: slices.Insert of one entry at the end. replies: the map of clients. replies: Take. -/
import Derived.Test.YtopbojifllnckaaGreatDoorG22
namespace Go.Proofs.YtopbojifllnckaaGreatDoor
open Go.RowKit
attribute [local irreducible] wpQuiet
/-- An entry at place p of a block: its number lies below F. -/
def Ent3 (cur : Array Value) (p : Nat) (F : Int) : Prop := ∃ (id : Int) (b : Bool) (s : ByteArray), cur[p]? = some (.int .i64 id) ∧ cur[p + 1]? = some (.bool b) ∧ cur[p + 2]? = some (.string s) ∧ 0 ≤ id ∧ id < F
/-- A client's row: n entries, room for c. -/
def RRow (S : Nat → Prop) (w : World) (A : Option Addr) (n c : Nat) (F : Int) : Prop :=
  (A = none ∧ n = 0 ∧ c = 0) ∨ ∃ r q cur, A = some ⟨r, q * 3, none⟩ ∧ S r ∧ Blk w r 191 cur ∧ n ≤ c ∧ c ≤ maxLen ∧ cur.size = (q + c) * 3 ∧ ∀ j < n, Ent3 cur ((q + j) * 3) F
section
variable {S T : Nat → Prop} {w w' : World} {n c : Nat} {A : Option Addr} {F G : Int}
theorem Ent3.mono {cur : Array Value} {p : Nat} (h : Ent3 cur p F) (hFG : F ≤ G) : Ent3 cur p G := by
  obtain ⟨id, b, s, h1, h2, h3, h4, h5⟩ := h
  exact ⟨id, b, s, h1, h2, h3, h4, by omega⟩
theorem RRow.keep (h : RRow S w A n c F) (hk : ∀ k, S k → k < w.heap.size → w'.heap[k]? = w.heap[k]?) : RRow S w' A n c F := by
  rcases h with h | ⟨r, q, cur, h1, h2, h3, h4⟩
  · exact .inl h
  · exact .inr ⟨r, q, cur, h1, h2, (hk r h2 h3.lt).trans h3, h4⟩
theorem RRow.mono (h : RRow S w A n c F) (hST : ∀ k, S k → T k) (hFG : F ≤ G) : RRow T w A n c G := by
  rcases h with h | ⟨r, q, cur, h1, h2, h3, h4, h5, h6, h7⟩
  · exact .inl h
  · exact .inr ⟨r, q, cur, h1, hST _ h2, h3, h4, h5, h6, fun j hj => (h7 j hj).mono hFG⟩
theorem RRow.three (h : RRow S w A n c F) {i : Nat} (hi : i < n) : ∃ r q, A = some ⟨r, q, none⟩ ∧ S r ∧ r < w.heap.size ∧ ∃ (id : Int) (b : Bool) (s : ByteArray), w.cell? ⟨r, q + i * 3, none⟩ = some (.int .i64 id) ∧ w.cell? ⟨r, q + i * 3 + 1, none⟩ = some (.bool b) ∧ w.cell? ⟨r, q + i * 3 + 2, none⟩ = some (.string s) ∧ 0 ≤ id ∧ id < F := by
  rcases h with ⟨_, h, _⟩ | ⟨r, q, cur, rfl, h1, h2, h3, _, h4, h5⟩
  · omega
  · obtain ⟨id, b, s, e0, e1, e2, e3, e4⟩ := h5 i hi
    rw [Nat.add_mul] at e0 e1 e2
    exact ⟨r, q * 3, rfl, h1, h2.lt, id, b, s, (h2.cell _).trans e0, (h2.cell _).trans e1, (h2.cell _).trans e2, e3, e4⟩
theorem rfind1_any {id x : Int} (b : Bool) (s : ByteArray) (h0 : 0 ≤ id) (h1 : id < 2147483648) (h2 : 0 ≤ x) (h3 : x < 2147483648) (w : World) :
    Calls Tryz.prog 153 #[.agg #[.int .i64 id, .bool b, .string s], .int .i64 x] w fun r w' => r = .returned (.int .i64 (id - x)) ∧ Below w.heap.size w w' := by
  have hb := hid ((Below.refl w.heap.size w).alloc (Nat.le_refl _) (.cells #[.int .i64 id, .bool b, .string s] 191))
  have hw : IntKind.i64.wrap (id - x) = id - x := by rw [IntKind.wrap_i64]; omega
  go_enter Tryz.func153, Tryz.ntmps153
  go_wp2_with fail
  go_ret
  exact ⟨rfl, hb.out⟩
/-- A place is given back; behind all, where all lie below x. -/
def RFindX (n : Nat) (all : Prop) (e : Ending) : Prop := ∃ (i : Nat) (t : Bool), i ≤ n ∧ (t = true → i < n) ∧ (all → i = n ∧ t = false) ∧ e = .returned (.tuple #[.int .i64 i, .bool t])
set_option maxRecDepth 100000 in
set_option maxHeartbeats 1600000 in
theorem rbin_any (h : RRow S w A n c F) (hn : n ≤ 1000000) (hF : F ≤ 2147483648) {x : Int} (hx : 0 ≤ x) (hx2 : x < 2147483648) :
    Calls Tryz.prog 152 #[.slice A n c, .int .i64 x, .func (.func 153) #[] #[]] w fun e w' => RFindX n (F ≤ x) e ∧ Below w.heap.size w w' := by
  have H := hid h
  clear h
  go_enter Tryz.func152, Tryz.ntmps152
  go_wp2_with fail
  go_loopw [9, 10] (fun v9 v10 wr => ∃ i j : Nat, i ≤ j ∧ j ≤ n ∧ Hid (F ≤ x → j = n) ∧ v9 = .int .i64 i ∧ v10 = .int .i64 j ∧ Hid (Below w.heap.size w wr)) (fun v9 v10 _ => (intOf v10).toNat - (intOf v9).toNat)
  case atStart => exact ⟨0, n, Nat.zero_le _, Nat.le_refl _, hid fun _ => rfl, rfl, rfl, Below.refl _ _⟩
  case round =>
    obtain ⟨i, j, hij, hjn, HJ, rfl, rfl, hB⟩ := hrel
    by_cases hlt : i < j
    · obtain ⟨m, hm⟩ : ∃ m : Nat, m = (i + j) / 2 := ⟨_, rfl⟩
      have hmi : i ≤ m := by omega
      have hmj : m < j := by omega
      have hmn : m < n := by omega
      have hmm : Hid (((i : Int) + (j : Int)) / 2 = (m : Int)) := by show _ = _; omega
      have HM := hid hm
      clear hm
      have hr := H.out.keep (w' := wr) fun k _ hk => hB.out.block k hk
      obtain ⟨r, q, rfl, _, _, id, b, s, e0, e1, e2, e3, e4⟩ := hr.three hmn
      have hwr := hB.out.size
      clear hr
      have hcall := hid (rfind1_any (id := id) (x := x) b s e3 (by omega) hx hx2 wr)
      have hlt' : Hid (F ≤ x → id - x < 0) := hid fun h => by omega
      clear e3 e4
      go_upto_region 5 with (fail)
      rw [hmm.out]
      go_wp2_with fail
      refine hcall.out.mono ?_
      rintro q w1 ⟨rfl, h1⟩
      have H1 := hid (hB.out.trans (h1.mono hwr))
      clear h1
      by_cases hv : id - x < 0
      · go_wp2_with fail
        go_roundw
        case rel => exact ⟨m + 1, j, by omega, by omega, HJ, by go_num, rfl, H1⟩
        case measure => simp [intOf]; omega
      · have hJ2 : Hid (F ≤ x → m = n) := hid fun h => absurd (hlt'.out h) hv
        go_wp2_with fail
        go_roundw
        case rel => exact ⟨i, m, by omega, by omega, hJ2, rfl, rfl, H1⟩
        case measure => simp [intOf]; omega
    · obtain rfl : i = j := by omega
      have hwr := hB.out.size
      by_cases hin : i < n
      · have hr := H.out.keep (w' := wr) fun k _ hk => hB.out.block k hk
        obtain ⟨r, q, rfl, _, _, id, b, s, e0, e1, e2, e3, e4⟩ := hr.three hin
        have hcall := hid (rfind1_any (id := id) (x := x) b s e3 (by omega) hx hx2 wr)
        have hno : Hid (F ≤ x → False) := hid fun h => by have := HJ.out h; omega
        clear hr e3 e4
        go_wp2_with fail
        refine hcall.out.mono ?_
        rintro q w1 ⟨rfl, h1⟩
        have H1 := hid (hB.out.trans (h1.mono hwr))
        clear h1
        go_wp2_with fail
        go_ret2
        exact ⟨⟨i, _, hjn, fun _ => hin, fun h => (hno.out h).elim, rfl⟩, H1.out⟩
      · have d0 : decide (i < n) = false := by simp; omega
        go_wp2_with fail
        go_ret2
        exact ⟨⟨i, false, hjn, (fun h => by cases h), fun _ => ⟨by omega, rfl⟩, rfl⟩, hB.out⟩
set_option maxHeartbeats 1600000 in
theorem rmay_any {a b : Int} (h0 : 0 ≤ a) (h1 : a < 64) (h2 : 0 ≤ b) (h3 : b < 2147483648) (w : World) : Calls Tryz.prog 90 #[.int .i64 a, .int .i64 b] w fun e w' => e = .returned (.bool true) ∧ w = w' := by
  go_enter Tryz.func90, Tryz.ntmps90
  go_wp2_with fail
  go_ret
  exact ⟨rfl, rfl⟩
end
end Go.Proofs.YtopbojifllnckaaGreatDoor
namespace Go.Proofs.YtopbojifllnckaaGreatDoor
open Go.RowKit
attribute [local irreducible] wpQuiet
theorem info191 : (Tryz.prog.info? 191).map (fun i => (i.zero, i.size, i.bytes)) = some (some (.agg #[.int .i64 0, .bool false, .string ⟨#[]⟩]), 3, 32) := by kernel_rfl
/-- A row with one entry more. -/
structure RNext (w : World) (A : Option Addr) (n : Nat) (w' : World) (A' : Option Addr) (c' : Nat) (G : Int) : Prop where
  row : RRow (fun k => (∃ q, A = some ⟨k, q, none⟩) ∨ (w.heap.size ≤ k ∧ k < w'.heap.size)) w' A' (n + 1) c' G
  other : ∀ k, k < w.heap.size → (∀ q, A ≠ some ⟨k, q, none⟩) → w'.heap[k]? = w.heap[k]?
  size : w.heap.size ≤ w'.heap.size
  os : w'.os = w.os
  tape : w'.tape = w.tape
  output : w'.output = w.output
section
variable {S : Nat → Prop} {w : World} {p n c : Nat} {A : Option Addr} {F G id : Int} {b : Bool} {s : ByteArray}
theorem blk_readsT {r : Nat} {t : TypeId} {cur : Array Value} (hs : Blk w r t cur) (o m : Nat) : ∀ j u, ((cur.toList.drop o).take m)[j]? = some u → w.cell? ((⟨r, o, none⟩ : Addr).add j) = some u := fun j u hj => by
  have ha : (⟨r, o, none⟩ : Addr).add j = ⟨r, o + j, none⟩ := by unfold Addr.add; split <;> simp_all
  rw [ha, hs.cell]
  rw [List.getElem?_take] at hj
  split at hj
  · rw [List.getElem?_drop] at hj
    simpa using hj
  · cases hj
theorem ent3_new (l1 l2 : List Value) (arr : Array Value) (harr : arr.toList = l1 ++ (Value.int .i64 id :: Value.bool b :: Value.string s :: l2)) (h0 : 0 ≤ id) (h1 : id < G) {m : Nat} (hm : l1.length = m) : Ent3 arr m G := by
  have ha : arr = (l1 ++ (Value.int .i64 id :: Value.bool b :: Value.string s :: l2)).toArray := Array.ext' (by rw [harr])
  subst ha
  subst hm
  refine ⟨id, b, s, ?_, ?_, ?_, h0, h1⟩
  · simp
  · simp
  · simp
theorem ent3_old {cur arr : Array Value} {p0 p1 : Nat} (h : Ent3 cur p0 F) (hFG : F ≤ G) (hk : ∀ k < 3, arr[p1 + k]? = cur[p0 + k]?) : Ent3 arr p1 G := by
  obtain ⟨i, b, s, e0, e1, e2, e3, e4⟩ := h
  exact ⟨i, b, s, (hk 0 (by omega)).trans e0, (hk 1 (by omega)).trans e1, (hk 2 (by omega)).trans e2, e3, by omega⟩
set_option maxRecDepth 100000 in
/-- append of one entry at the end. -/
theorem rinsEnd (h : RRow S w A n c F) (hp : Blk w p 191 #[.int .i64 id, .bool b, .string s]) (h0 : 0 ≤ id) (h1 : id < G) (hFG : F ≤ G) (hn : n ≤ 1000000) :
    ∃ A' c' w', (Builtin.append_ #[189, 189] 189 #[.slice A n c, .slice (some ⟨p, 0, none⟩) 1 1]).run Tryz.prog w = .ok (.slice A' (n + 1) c') w' ∧ RNext w A n w' A' c' G := by
  obtain ⟨j, hj, hzz⟩ := Option.map_eq_some_iff.1 info191
  simp only [Prod.mk.injEq] at hzz
  obtain ⟨hz, h3, h32⟩ := hzz
  have hpl : [Value.int .i64 id, .bool b, .string s].length = 1 * j.size := by rw [h3]; rfl
  have hps : ∀ k v, [Value.int .i64 id, .bool b, .string s][k]? = some v → w.cell? ((⟨p, 0, none⟩ : Addr).add k) = some v := fun k v hk => by
    rw [add_plain, hp.cell, ← hk]
    simp
  have hone : ∀ u ∈ [Value.int .i64 id, .bool b, .string s], u.oneCell' = true := fun u hu => by
    simp only [List.mem_cons, List.not_mem_nil, or_false] at hu
    rcases hu with rfl | rfl | rfl <;> rfl
  rcases h with ⟨rfl, rfl, rfl⟩ | ⟨r, q, cur, rfl, hsr, hr, hnc, hcm, hcs, hri⟩
  · have hrun := run_append_nil (P := Tryz.prog) w 189 189 191 j _ Tryz.underlying189 hj hz ⟨p, 0, none⟩ 1 1 _ hpl hps (by omega) (by omega) (by omega)
    have hg := grownCap_ge w 1 0 191
    have hgm := grownCap_le_maxLen w 1 0 191 (by decide)
    refine ⟨_, _, _, hrun, ⟨.inr ⟨w.heap.size, 0, _, rfl, .inr ⟨Nat.le_refl _, by simp⟩, Blk.new w.drew 191 _, by omega, hgm, ?_, fun k hk => ?_⟩, fun k hk _ => Below.heap_alloc w.drew _ k hk, by simp, rfl, rfl, rfl⟩⟩
    · simp [Builtin.zeroCells, Value.cells]
      omega
    · obtain rfl : k = 0 := by omega
      exact ent3_new [] (Builtin.zeroCells (Value.agg #[.int .i64 0, .bool false, .string ⟨#[]⟩]).cells (grownCap w 1 0 191 - 1)).toList _ (by rw [Array.toList_append]; rfl) h0 h1 rfl
  · by_cases hroom : n + 1 ≤ c
    · have hlt : q * 3 + n * 3 + 2 < cur.size := by omega
      have hrun := run_append_room_cells (P := Tryz.prog) (w := w) 189 189 191 j Tryz.underlying189 hj r (q * 3) n c ⟨p, 0, none⟩ 1 1 _ hpl hps hone hroom (fun k hk => by
        rw [hr.cell, h3]
        have : k < 3 := hk
        simp
        omega) (fun k _ => hr.frozen _)
      rw [h3] at hrun
      obtain ⟨o, ho⟩ : ∃ o, o = q * 3 + n * 3 := ⟨_, rfl⟩
      rw [← ho] at hrun hlt
      have hb1 := ((hr.set_ o (.int .i64 id)).set_ (o + 1) (.bool b)).set_ (o + 2) (.string s)
      refine ⟨_, _, _, hrun, ⟨.inr ⟨r, q, _, rfl, .inl ⟨_, rfl⟩, hb1, hroom, hcm, by simpa using hcs, fun k hk => ?_⟩, fun k _ hk => ?_, by simp [World.setCells, World.setCell], rfl, rfl, rfl⟩⟩
      · by_cases hkn : k = n
        · subst hkn
          rw [show (q + k) * 3 = o by omega]
          refine ⟨id, b, s, ?_, ?_, ?_, h0, h1⟩
          · simp [Array.getElem?_setIfInBounds]; omega
          · simp [Array.getElem?_setIfInBounds]; omega
          · simp [Array.getElem?_setIfInBounds]; omega
        · refine ent3_old (hri k (by omega)) hFG fun i hi => ?_
          have q1 : o ≠ (q + k) * 3 + i := by omega
          have q2 : o + 1 ≠ (q + k) * 3 + i := by omega
          have q3 : o + 2 ≠ (q + k) * 3 + i := by omega
          simp [q1, q2, q3]
      · have hne : k ≠ r := fun e => hk _ (by rw [e])
        exact ((Below.heap_setCell _ ⟨r, o + 2, none⟩ _ k hne).trans (Below.heap_setCell _ ⟨r, o + 1, none⟩ _ k hne)).trans (Below.heap_setCell w ⟨r, o, none⟩ _ k hne)
    · obtain rfl : n = c := by omega
      have hol : ((cur.toList.drop (q * 3)).take (n * 3)).length = n * j.size := by rw [h3, List.length_take, List.length_drop, Array.length_toList]; omega
      have hos : ∀ k v, ((cur.toList.drop (q * 3)).take (n * 3))[k]? = some v → w.cell? ((⟨r, q * 3, none⟩ : Addr).add k) = some v := fun k v hk => blk_readsT hr (q * 3) (n * 3) k v hk
      have hrun := run_append_grow (P := Tryz.prog) w 189 189 191 j _ Tryz.underlying189 hj hz ⟨r, q * 3, none⟩ n n _ hol hos ⟨p, 0, none⟩ 1 1 _ hpl hps (by omega) (by omega) (growslice_fits (by omega) (by rw [h32]; omega))
      have hg := grownCap_ge w (n + 1) n 191
      have hgm := grownCap_le_maxLen w (n + 1) n 191 (by simp only [maxLen]; omega)
      rw [h3] at hol
      refine ⟨_, _, _, hrun, ⟨.inr ⟨w.heap.size, 0, _, rfl, .inr ⟨Nat.le_refl _, by simp⟩, Blk.new w.drew 191 _, hg, hgm, ?_, fun k hk => ?_⟩, fun k hk _ => Below.heap_alloc w.drew _ k hk, by simp, rfl, rfl, rfl⟩⟩
      · rw [Array.size_append, Array.size_append, size_zeroCells, List.size_toArray, List.size_toArray, hol]
        simp [Value.cells]
        omega
      · by_cases hkn : k = n
        · subst hkn
          refine ent3_new ((cur.toList.drop (q * 3)).take (k * 3)) (Builtin.zeroCells (Value.agg #[.int .i64 0, .bool false, .string ⟨#[]⟩]).cells (grownCap w (k + 1) k 191 - (k + 1))).toList _ (by rw [Array.toList_append, Array.toList_append, List.append_assoc]; rfl) h0 h1 (by omega)
        · refine ent3_old (hri k (by omega)) hFG fun i hi => ?_
          rw [Array.append_assoc, Array.getElem?_append_left (by simp only [List.size_toArray, hol]; omega)]
          simp only [List.getElem?_toArray]
          rw [List.getElem?_take_of_lt (by omega), List.getElem?_drop, Array.getElem?_toList]
          congr 1
          omega
end
end Go.Proofs.YtopbojifllnckaaGreatDoor
namespace Go.Proofs.YtopbojifllnckaaGreatDoor
open Go.RowKit
attribute [local irreducible] wpQuiet
section
variable {S : Nat → Prop} {w : World} {p n c : Nat} {A : Option Addr} {F G id : Int} {b : Bool} {s : ByteArray}
set_option maxRecDepth 100000 in
set_option maxHeartbeats 1600000 in
theorem rins_any (h : RRow S w A n c F) (hp : Blk w p 191 #[.int .i64 id, .bool b, .string s]) (h0 : 0 ≤ id) (h1 : id < G) (hFG : F ≤ G) (hn : n ≤ 1000000) :
    Calls Tryz.prog 92 #[.slice A n c, .int .i64 n, .slice (some ⟨p, 0, none⟩) 1 1] w fun e w' => ∃ A' c', e = .returned (.slice A' (n + 1) c') ∧ RNext w A n w' A' c' G := by
  obtain ⟨A', c', w1, hrun, hx⟩ := rinsEnd h hp h0 h1 hFG hn
  have hnc : (n : Int) ≤ (c : Int) := by
    rcases h with ⟨_, h1, h2⟩ | ⟨_, _, _, _, _, _, h1, _⟩ <;> omega
  have hn0 : (0 : Int) ≤ (n : Int) := by omega
  have HR := hid hrun
  have HX := hid hx
  clear h hp hrun hx
  go_enter Tryz.func92, Tryz.ntmps92
  go_wp2_with (at_builtin; refine Lib.wpList_append_run _ rfl (.tmp 23) (.tmp 24) 189 189 rfl _ _ rfl rfl _ _ HR.out ?_)
  all_goals
    go_ret
    exact ⟨A', c', rfl, HX.out⟩
end
/-- Where a client's row lies: block, place, length, room. -/
abbrev Row4 := Nat × Nat × Nat × Nat
def sOf : Option Row4 → Value
  | none => .slice none 0 0
  | some (r, q, n, c) => .slice (some ⟨r, q, none⟩) n c
def repD : Option Row4 → DataW Unit
  | none => .nil
  | some (r, q, n, c) => .agg [.lit (.int .i64 r), .lit (.int .i64 q), .lit (.int .i64 n), .lit (.int .i64 c)]
def repE : Value → Option (DataW Unit × List MemPlace)
  | .slice none 0 0 => some (.nil, [])
  | .slice (some ⟨r, q, none⟩) n c => some (.agg [.lit (.int .i64 r), .lit (.int .i64 q), .lit (.int .i64 n), .lit (.int .i64 c)], [])
  | _ => none
theorem repE_of {v : Value} {ps : List MemPlace} {o : Option Row4} (h : repE v = some (repD o, ps)) : v = sOf o := by
  unfold repE at h
  split at h
  · cases o with
    | none => rfl
    | some x => obtain ⟨r, q, n, c⟩ := x; simp [repD] at h
  · cases o with
    | none => simp [repD] at h
    | some x =>
      obtain ⟨r, q, n, c⟩ := x
      simp only [repD, Option.some.injEq, Prod.mk.injEq, DataW.agg.injEq, List.cons.injEq, DataW.lit.injEq, Lit.int.injEq] at h
      obtain ⟨⟨⟨_, h1⟩, ⟨_, h2⟩, ⟨_, h3⟩, ⟨_, h4⟩, _⟩, _⟩ := h
      rw [Int.ofNat.inj h1, Int.ofNat.inj h2, Int.ofNat.inj h3, Int.ofNat.inj h4]
      rfl
  · cases h
theorem zero189 (w : World) : (zeroValue 189).run Tryz.prog w = .ok (.slice none 0 0) w := by kernel_rfl
/-- Block b is a map of at most N rows. -/
def RMap (w : World) (b N : Nat) (tab : Int → Option Row4) : Prop := ∃ D : DataW Unit, w.ownsMap Tryz.prog 3 repE b N D ∧ Maps.IsMap D ∧ ∀ key, (Lit.int .i64 key).wf = true → D.atKey (.int .i64 key) .nil = repD (tab key)
section
variable {w w' : World} {b N : Nat} {tab : Int → Option Row4}
theorem RMap.look1 (h : RMap w b N tab) {x : Int} (hx : (Lit.int .i64 x).wf = true) : (Instr.lookup 168 (.map (some b)) (.int .i64 x) false).run Tryz.prog w = .ok (sOf (tab x)) w := by
  obtain ⟨D, ho, _, hf⟩ := h
  obtain ⟨v, ps, hr, hv⟩ := ho.lookup (zd := .nil) (zp := []) keyed3 Tryz.underlying168 (zero189 w) rfl (wf_key3 hx)
  rw [hf x hx] at hv
  rw [hr, repE_of hv]
theorem RMap.put (h : RMap w b N tab) {x : Int} (r q n c : Nat) (hx : (Lit.int .i64 x).wf = true) (hn : N < maxLen) :
    ∃ w', (Instr.mapUpdate 168 (.map (some b)) (.int .i64 x) (.slice (some ⟨r, q, none⟩) n c)).run Tryz.prog w = .ok () w' ∧ RMap w' b (N + 1) (fun y => if y = x then some (r, q, n, c) else tab y) ∧ w.grownBy w' (some b) := by
  obtain ⟨D, ho, hm, hf⟩ := h
  obtain ⟨w', hr, ho', hg⟩ := ho.update (val := .slice (some ⟨r, q, none⟩) n c) (d := repD (some (r, q, n, c))) (ps := []) keyed3 Tryz.underlying168 hn (wf_key3 hx) rfl
  refine ⟨w', hr, ⟨_, ho', hm.put _ _, fun y hy => ?_⟩, hg⟩
  by_cases e : y = x
  · subst e
    simp only [↓reduceIte]
    exact Maps.atKey_put_same hm (show WideAt.IsKeyLit (.int .i64 y) from trivial) _ _
  · simp only [if_neg e]
    have hne : Lit.int .i64 y ≠ Lit.int .i64 x := fun h => e (by injection h)
    rw [Maps.atKey_put_other hne]
    exact hf y hy
theorem RMap.keep (h : RMap w b N tab) (hk : w'.heap[b]? = w.heap[b]?) : RMap w' b N tab := by
  obtain ⟨D, ⟨es, clock, hb, hr⟩, h2⟩ := h
  exact ⟨D, ⟨es, clock, hk.trans hb, hr⟩, h2⟩
theorem RMap.lt (h : RMap w b N tab) : b < w.heap.size := by obtain ⟨D, ho, _⟩ := h; exact ho.lt
theorem RMap.more (h : RMap w b N tab) {m : Nat} (hm : N ≤ m) : RMap w b m tab := by obtain ⟨D, ho, h2⟩ := h; exact ⟨D, ho.mono hm, h2⟩
theorem RMap.ne (h : RMap w b N tab) {g : Nat} {t : TypeId} {cs : Array Value} (hg : Blk w g t cs) : g ≠ b := fun e => by
  obtain ⟨D, ⟨es, clock, hb, _⟩, _⟩ := h
  subst e
  rw [show w.heap[g]? = _ from hg] at hb
  cases hb
end
/-- A client's row, wherever it lies. -/
def RV (S : Nat → Prop) (w : World) (o : Option Row4) (F : Int) : Prop := ∃ A n c, sOf o = .slice A n c ∧ n ≤ 4 ∧ RRow S w A n c F
/-- The replies in blocks of S: at most N rows; the numbers of client k's calls lie below f k. -/
def Rep (S : Nat → Prop) (w : World) (g N : Nat) (f : Int → Int) : Prop :=
  ∃ b tab, Blk w g 170 #[.int .i64 4, .map (some b)] ∧ S g ∧ S b ∧ RMap w b N tab ∧ (∀ k, RV S w (tab k) (f k)) ∧ ∀ k k' r q n c q' n' c', tab k = some (r, q, n, c) → tab k' = some (r, q', n', c') → k = k'
section
variable {S T : Nat → Prop} {w w' : World} {g N : Nat} {f : Int → Int}
theorem RV.keep {o : Option Row4} {F : Int} (h : RV S w o F) (hk : ∀ k, S k → k < w.heap.size → w'.heap[k]? = w.heap[k]?) : RV S w' o F := by
  obtain ⟨A, n, c, h1, h2, h3⟩ := h
  exact ⟨A, n, c, h1, h2, h3.keep hk⟩
theorem RV.mono {o : Option Row4} {F G : Int} (h : RV S w o F) (hST : ∀ k, S k → T k) (hFG : F ≤ G) : RV T w o G := by
  obtain ⟨A, n, c, h1, h2, h3⟩ := h
  exact ⟨A, n, c, h1, h2, h3.mono hST hFG⟩
theorem Rep.keep (h : Rep S w g N f) (hk : ∀ k, S k → k < w.heap.size → w'.heap[k]? = w.heap[k]?) : Rep S w' g N f := by
  obtain ⟨b, tab, h1, h2, h3, h4, h5, h6⟩ := h
  exact ⟨b, tab, (hk g h2 h1.lt).trans h1, h2, h3, h4.keep (hk b h3 h4.lt), fun k => (h5 k).keep hk, h6⟩
theorem Rep.mono (h : Rep S w g N f) (hST : ∀ k, S k → T k) {M : Nat} (hM : N ≤ M) : Rep T w g M f := by
  obtain ⟨b, tab, h1, h2, h3, h4, h5, h6⟩ := h
  exact ⟨b, tab, h1, hST _ h2, hST _ h3, h4.more hM, fun k => (h5 k).mono hST (Int.le_refl _), h6⟩
set_option maxRecDepth 100000 in
set_option maxHeartbeats 1600000 in
theorem rfind_any (h : Rep S w g N f) (hf : ∀ k, f k ≤ 2147483648) {cl x : Int} (h0 : 0 ≤ cl) (h1 : cl < 64) (hx : 0 ≤ x) (hx2 : x < 2147483648) :
    Calls Tryz.prog 91 #[.pointer (some ⟨g, 0, none⟩), .int .i64 cl, .int .i64 x] w fun e w' => ∃ b tab A n c, Hid (Blk w g 170 #[.int .i64 4, .map (some b)] ∧ S g ∧ S b ∧ RMap w b N tab ∧ (∀ k, RV S w (tab k) (f k)) ∧ ∀ k k' r q n c q' n' c', tab k = some (r, q, n, c) → tab k' = some (r, q', n', c') → k = k') ∧ Hid (sOf (tab cl) = .slice A n c) ∧ n ≤ 4 ∧ Hid (RRow S w A n c (f cl)) ∧ RFindX n (f cl ≤ x) e ∧ Below w.heap.size w w' := by
  obtain ⟨b, tab, k1, k2, k3, k4, k5, k6⟩ := h
  obtain ⟨A, n, c, q1, q2, q3⟩ := k5 cl
  have hkey : (Lit.int .i64 cl).wf = true := wf_i64 (by omega) (by omega)
  have hlk := k4.look1 hkey
  rw [q1] at hlk
  have e1 : w.cell? ⟨g, 1, none⟩ = some (.map (some b)) := (k1.cell 1).trans rfl
  have hc := hid (rbin_any q3 (by omega) (hf cl) hx hx2)
  have HK := hid (And.intro k1 (And.intro k2 (And.intro k3 (And.intro k4 (And.intro k5 k6)))))
  have Q1 := hid q1
  have Q3 := hid q3
  clear k1 k2 k3 k4 k5 k6 q1 q3 hkey hf
  go_enter Tryz.func91, Tryz.ntmps91
  go_wp2_with fail
  refine hc.out.mono ?_
  rintro e w' ⟨⟨i, t, r1, r2, r3, rfl⟩, h1⟩
  have H1 := hid h1
  have R2 := hid r2
  have R3 := hid r3
  clear h1 r2 r3
  go_wp2_with fail
  go_ret2
  exact ⟨b, tab, A, n, c, HK, Q1, q2, Q3, ⟨i, t, r1, R2.out, R3.out, rfl⟩, H1.out⟩
end
end Go.Proofs.YtopbojifllnckaaGreatDoor
namespace Go.Proofs.YtopbojifllnckaaGreatDoor
open Go.RowKit
attribute [local irreducible] wpQuiet
theorem wpList_rput {w : World} {b N : Nat} {tab : Int → Option Row4} {ops : Array Oper} {rest : List Oper} {o : Oper} {a : Act} {Q : Exit → Act → World → Prop} (hg : o.guard = none) (m x v : Operand) (hop : o.op = Op.mapUpdate 168 m x v)
    (hm : a.eval m = .map (some b)) (hown : RMap w b N tab) (hn : N < maxLen) (key : Int) (hx : a.eval x = .int .i64 key) (hkey : (Lit.int .i64 key).wf = true) (r q n c : Nat) (hv : a.eval v = .slice (some ⟨r, q, none⟩) n c)
    (hK : ∀ w', RMap w' b (N + 1) (fun y => if y = key then some (r, q, n, c) else tab y) → w.grownBy w' (some b) → wpList Tryz.prog ops Q rest (a.put o.dst undef) w') :
    wpList Tryz.prog ops Q (o :: rest) a w := by
  refine wpList_plain hg fun K' hK' => ?_
  obtain ⟨w', hrun, r1, r2⟩ := hown.put r q n c hkey hn
  unfold Oper.wp
  simp [execOp, hop, hm, hx, hv, hrun, Result.andThen]
  exact hK' _ _ (hK w' r1 r2)
section
variable {S : Nat → Prop} {w : World} {g N : Nat} {f : Int → Int}
theorem sOf_some {o : Option Row4} {r q n c : Nat} (h : sOf o = .slice (some ⟨r, q, none⟩) n c) : o = some (r, q, n, c) := by
  cases o with
  | none => simp [sOf] at h
  | some x =>
    obtain ⟨r', q', n', c'⟩ := x
    simp only [sOf, Value.slice.injEq, Option.some.injEq, Addr.mk.injEq] at h
    obtain ⟨⟨rfl, rfl, _⟩, rfl, rfl⟩ := h
    rfl
theorem rep_end {w2 w3 w4 : World} {b : Nat} {tab : Int → Option Row4} {A : Option Addr} {n c c' r' q1 n1 c1 : Nat} {cur : Array Value} {cl x : Int} {A' : Option Addr}
    (HK : Blk w g 170 #[.int .i64 4, .map (some b)] ∧ S g ∧ S b ∧ RMap w b N tab ∧ (∀ k, RV S w (tab k) (f k)) ∧ ∀ k k' r q n c q' n' c', tab k = some (r, q, n, c) → tab k' = some (r, q', n', c') → k = k')
    (hq : sOf (tab cl) = .slice A n c) (hr : RRow S w A n c (f cl)) (h2 : Below w.heap.size w w2) (hx : RNext w2 A n w3 A' c' (x + 1)) (hown : (∃ q, A = some ⟨r', q, none⟩) ∨ (w2.heap.size ≤ r' ∧ r' < w3.heap.size)) (hB : Blk w3 r' 191 cur)
    (hn4 : n1 ≤ 4) (hnc : n1 ≤ c1) (hcm : c1 ≤ maxLen) (hcs : cur.size = (q1 + c1) * 3) (hent : ∀ j < n1, Ent3 cur ((q1 + j) * 3) (x + 1))
    (hm : RMap w4 b (N + 1) (fun y => if y = cl then some (r', q1 * 3, n1, c1) else tab y)) (hg : (w3.drewN 1).grownBy w4 (some b)) :
    Rep (Grow S w w4) w4 g (N + 1) (fun k => if k = cl then x + 1 else f k) ∧ Only S w w4 := by
  obtain ⟨k1, k2, k3, k4, k5, k6⟩ := HK
  have hgb := k4.ne k1
  have hAg : ∀ q, A ≠ some ⟨g, q, none⟩ := fun q e => by
    rcases hr with ⟨h, _⟩ | ⟨r, q', cur', h, _, h3, _⟩
    · rw [h] at e; cases e
    · rw [h] at e; cases e; exact (k1.ne_ h3 (by decide)) rfl
  have hAb : ∀ q, A ≠ some ⟨b, q, none⟩ := fun q e => by
    rcases hr with ⟨h, _⟩ | ⟨r, q', cur', h, _, h3, _⟩
    · rw [h] at e; cases e
    · rw [h] at e; cases e; exact k4.ne h3 rfl
  have s2 := h2.size
  have s3 := hx.size
  have s4 := hg.size
  change w3.heap.size ≤ w4.heap.size at s4
  have hblk : ∀ k, k < w.heap.size → (∀ q, A ≠ some ⟨k, q, none⟩) → k ≠ b → w4.heap[k]? = w.heap[k]? := fun k hk hA hkb =>
    (hg.block k (show k < w3.heap.size by omega) (by simpa using hkb)).trans ((hx.other k (by omega) hA).trans (h2.block k hk))
  have k4' : RMap w3 b N tab := k4.keep ((hx.other b (Nat.lt_of_lt_of_le k4.lt s2) hAb).trans (h2.block b k4.lt))
  have hrb : r' ≠ b := k4'.ne hB
  have hB4 : Blk w4 r' 191 cur := (hg.block r' hB.lt (by simpa using hrb)).trans hB
  have hA3 : ∀ k r q n c, k ≠ cl → tab k = some (r, q, n, c) → ∀ q', A ≠ some ⟨r, q', none⟩ := fun k r q n' c' hk ht q' e => by
    rw [e] at hq
    exact hk (k6 k cl _ _ _ _ _ _ _ ht (sOf_some hq))
  have hlt : ∀ k r q n c, tab k = some (r, q, n, c) → r < w.heap.size := fun k r q n c ht => by
    obtain ⟨A2, n2, c2, e1, _, e3⟩ := k5 k
    rw [ht] at e1
    simp only [sOf, Value.slice.injEq] at e1
    obtain ⟨e1, _, _⟩ := e1
    rcases e3 with ⟨h, _⟩ | ⟨r3, q3, cur3, h, _, h3, _⟩
    · rw [h] at e1; cases e1
    · rw [h] at e1; cases e1; exact h3.lt
  refine ⟨⟨b, _, (hblk g k1.lt hAg hgb).trans k1, .inl k2, .inl k3, hm, fun k => ?_, fun k k' r q n' c' q' n'' c'' e1 e2 => ?_⟩, hg.os.trans (hx.os.trans h2.os), hg.tape.trans (hx.tape.trans h2.tape), hg.output.trans (hx.output.trans h2.output), by omega, fun k hk hs => ?_⟩
  · by_cases hk : k = cl
    · simp only [if_pos hk]
      refine ⟨some ⟨r', q1 * 3, none⟩, n1, c1, rfl, hn4, .inr ⟨r', q1, cur, rfl, ?_, hB4, hnc, hcm, hcs, hent⟩⟩
      rcases hown with ⟨q, e⟩ | ⟨e1, e2⟩
      · rcases hr with ⟨h, _⟩ | ⟨r, q', cur', h, h3, _⟩
        · rw [h] at e; cases e
        · rw [h] at e; cases e; exact .inl h3
      · exact .inr ⟨by omega, by omega⟩
    · simp only [if_neg hk]
      obtain ⟨A2, n2, c2, e1, e2, e3⟩ := k5 k
      refine ⟨A2, n2, c2, e1, e2, ?_⟩
      rcases e3 with h | ⟨r3, q3, cur3, rfl, h2', h3, h4⟩
      · exact .inl h
      · have ht := sOf_some e1
        exact .inr ⟨r3, q3, cur3, rfl, .inl h2', (hblk r3 h3.lt (hA3 k _ _ _ _ hk ht) (k4.ne h3)).trans h3, h4⟩
  · by_cases hk : k = cl
    · by_cases hk' : k' = cl
      · exact hk.trans hk'.symm
      · rw [if_pos hk] at e1
        rw [if_neg hk'] at e2
        cases e1
        exfalso
        rcases hown with ⟨q3, e⟩ | ⟨e3, _⟩
        · exact hA3 k' _ _ _ _ hk' e2 _ e
        · have := hlt _ _ _ _ _ e2; omega
    · rw [if_neg hk] at e1
      by_cases hk' : k' = cl
      · rw [if_pos hk'] at e2
        cases e2
        exfalso
        rcases hown with ⟨q3, e⟩ | ⟨e3, _⟩
        · exact hA3 k _ _ _ _ hk e1 _ e
        · have := hlt _ _ _ _ _ e1; omega
      · rw [if_neg hk'] at e2
        exact k6 _ _ _ _ _ _ _ _ _ e1 e2
  · refine hblk k hk (fun q e => ?_) (fun e => hs (e ▸ k3))
    rcases hr with ⟨h, _⟩ | ⟨r, q', cur', h, h3, _⟩
    · rw [h] at e; cases e
    · rw [h] at e; cases e; exact hs h3
set_option maxRecDepth 100000 in
set_option maxHeartbeats 1600000 in
theorem Take_any (h : Rep S w g N f) (hf : ∀ k, f k ≤ 2147483648) {cl x : Int} (h0 : 0 ≤ cl) (h1 : cl < 64) (hx : 0 ≤ x) (hx2 : x < 2147483648) (hfx : f cl ≤ x) (hN : N ≤ 100000) :
    Calls Tryz.prog 40 #[.pointer (some ⟨g, 0, none⟩), .int .i64 cl, .int .i64 x] w fun e w' => e = .returned (.tuple #[.int .i64 1, .string ⟨#[]⟩]) ∧ Rep (Grow S w w') w' g (N + 1) (fun k => if k = cl then x + 1 else f k) ∧ Only S w w' := by
  have hc := hid (rfind_any h hf h0 h1 hx hx2)
  have hkey : (Lit.int .i64 cl).wf = true := wf_i64 (by omega) (by omega)
  have HKEY := hid hkey
  have hmay := hid (rmay_any h0 h1 hx hx2 w)
  clear h h0 h1 hkey
  go_enter Tryz.func40, Tryz.ntmps40
  go_wp2_with fail
  refine hmay.out.mono ?_
  rintro e w' ⟨rfl, rfl⟩
  go_wp2_with fail
  refine hc.out.mono ?_
  rintro e w1 ⟨b, tab, A, n, c, HK, Q1, hn4, Q3, ⟨i, t, r1, r2, r3, rfl⟩, hb⟩
  obtain ⟨rfl, rfl⟩ := r3 hfx
  have hlk := (HK.out.2.2.2.1.keep (w' := w1) (hb.block _ HK.out.2.2.2.1.lt)).look1 HKEY.out
  rw [Q1.out] at hlk
  have hB1 : Blk w1 g 170 #[.int .i64 4, .map (some b)] := HK.out.1.below hb HK.out.1.lt
  have e0 : w1.cell? ⟨g, 0, none⟩ = some (.int .i64 4) := (hB1.cell 0).trans rfl
  have e1 : w1.cell? ⟨g, 1, none⟩ = some (.map (some b)) := (hB1.cell 1).trans rfl
  have hgl : g < w1.heap.size := hB1.lt
  have HB := hid hb
  have HB1 := hid hB1
  have HR1 := hid (Q3.out.keep (w' := w1) fun k _ hk => hb.block k hk)
  clear hb hB1 r1 r2 r3
  have hcall := hid (rins_any (n := i) (p := w1.heap.size) (id := x) (b := true) (s := ⟨#[]⟩) (G := x + 1) (HR1.out.keep (w' := w1.alloc (.cells #[.int .i64 x, .bool true, .string ⟨#[]⟩] 191)) fun k _ hk => Below.heap_alloc w1 _ k hk) (Blk.new w1 191 _) hx (by omega) (by omega) (by omega))
  have hi5 : i = 0 ∨ i = 1 ∨ i = 2 ∨ i = 3 ∨ i = 4 := by omega
  rcases hi5 with rfl | rfl | rfl | rfl | rfl
  all_goals
    go_wp2_with fail
    refine hcall.out.mono ?_
    rintro e w3 ⟨A', c', rfl, hx3⟩
    obtain ⟨r', q', cur, rfl, m1, m2, m4, m5, m6, m7⟩ : ∃ r' q' cur, A' = some ⟨r', q' * 3, none⟩ ∧ ((∃ q, A = some ⟨r', q, none⟩) ∨ ((w1.alloc (.cells #[.int .i64 x, .bool true, .string ⟨#[]⟩] 191)).heap.size ≤ r' ∧ r' < w3.heap.size)) ∧ Blk w3 r' 191 cur ∧ _ ≤ c' ∧ c' ≤ maxLen ∧ cur.size = (q' + c') * 3 ∧ ∀ j < _, Ent3 cur ((q' + j) * 3) (x + 1) := by
      rcases hx3.row with ⟨_, h, _⟩ | ⟨r', q', cur, h1, h2, h3, h4, h5, h6, h7⟩
      · cases h
      · exact ⟨r', q', cur, h1, h2, h3, h4, h5, h6, h7⟩
    have hAg : ∀ q, A ≠ some ⟨g, q, none⟩ := fun q e => by
      rcases HR1.out with ⟨h, _⟩ | ⟨r, q', cur', h, _, h3, _⟩
      · rw [h] at e; cases e
      · rw [h] at e; cases e; exact (HB1.out.ne_ h3 (by decide)) rfl
    have hAb : ∀ q, A ≠ some ⟨b, q, none⟩ := fun q e => by
      rcases Q3.out with ⟨h, _⟩ | ⟨r, q', cur', h, _, h3, _⟩
      · rw [h] at e; cases e
      · rw [h] at e; cases e; exact HK.out.2.2.2.1.ne h3 rfl
    have hW2 : Below w.heap.size w (w1.alloc (.cells #[.int .i64 x, .bool true, .string ⟨#[]⟩] 191)) := HB.out.alloc HB.out.size _
    have hG3 : Blk w3 g 170 #[.int .i64 4, .map (some b)] := (hx3.other g (Nat.lt_of_lt_of_le HK.out.1.lt hW2.size) hAg).trans (HK.out.1.below hW2 HK.out.1.lt)
    have hM3 : RMap w3 b N tab := HK.out.2.2.2.1.keep ((hx3.other b (Nat.lt_of_lt_of_le HK.out.2.2.2.1.lt hW2.size) hAb).trans (hW2.block b HK.out.2.2.2.1.lt))
    have g0 : w3.cell? ⟨g, 0, none⟩ = some (.int .i64 4) := (hG3.cell 0).trans rfl
    have g1 : w3.cell? ⟨g, 1, none⟩ = some (.map (some b)) := (hG3.cell 1).trans rfl
    have hgl3 : g < w3.heap.size := hG3.lt
    have hc0 : (c' = 0) = False := by simp; omega
    have hci : (0 : Int) ≤ (c' : Int) := by omega
    have M := hid (And.intro m1 (And.intro m2 (And.intro m4 (And.intro m5 (And.intro m6 (And.intro m7 (And.intro hW2 (And.intro hM3 hx3))))))))
    clear m1 m2 m4 m5 m6 m7 hW2 hM3 hG3 hx3 hAg hAb
    go_upto_region 12 with (fail)
    have u3 : IntKind.i64.wrap (-3) = -3 := by decide
    have u2 : IntKind.i64.wrap (-2) = -2 := by decide
    have u1 : IntKind.i64.wrap (-1) = -1 := by decide
    have u0 : IntKind.i64.wrap 0 = 0 := by decide
    have u4 : IntKind.i64.wrap 1 = 1 := by decide
    first | have hc1 : (c' = 1) = False := (by have := M.out.2.2.1; simp; omega) | skip
    go_still_tail 15, (by kernel_rfl)
    change wpList _ _ _ _ _ (w3.drewN 1)
    clear u0 u1 u2 u3 u4
    refine wpList_rput (b := b) (N := N) (tab := tab) rfl (.tmp 69) (.tmp 70) (.tmp 80) rfl rfl (M.out.2.2.2.2.2.2.2.1.keep rfl) (by unfold maxLen; omega) cl rfl HKEY.out _ _ _ _ rfl ?_
    intro w4 hm4 hg4
    have HM4 := hid hm4
    have HG4 := hid hg4
    clear hm4 hg4 g0 g1
    go_wp2_with fail
    go_ret2
    obtain ⟨m1, m2, m4, m5, m6, m7, hW2, hM3, hx3⟩ := M.out
    refine ⟨rfl, ?_⟩
    try first
      | exact rep_end (q1 := q') HK.out Q1.out Q3.out hW2 hx3 m1 m2 (by omega) m4 m5 m6 m7 HM4.out HG4.out
  have e : q' * 3 + 3 = (q' + 1) * 3 := by omega
  have hm := HM4.out
  rw [e] at hm
  refine rep_end (q1 := q' + 1) HK.out Q1.out Q3.out hW2 hx3 m1 m2 (Nat.le_refl _) (by omega) (by omega) (by omega) (fun j hj => ?_) hm HG4.out
  have := m7 (j + 1) (by omega)
  rw [show q' + (j + 1) = q' + 1 + j by omega] at this
  exact this
end
end Go.Proofs.YtopbojifllnckaaGreatDoor
