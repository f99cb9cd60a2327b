/- smap: stripes in memory; at. smap: Get. smap, stripes of four servers: Commit. smap, stripes of four servers: Begin. -/
import Derived.Test.YtopbojifllnckaaGreatDoorG30
namespace Go.Proofs.YtopbojifllnckaaGreatDoor.F
open Go.RowKit
attribute [local irreducible] wpQuiet
/-- A stripe; its servers stand in block g. -/
structure Str where
  st : Int
  ow : Int
  ep : Int
  ln : Int
  g : Nat
  c : Nat
  xs : List Int
def scells (i : Nat) (s : Str) : List Value := [.int .i64 i, .int .i64 s.st, .int .i64 s.ow, .int .i64 s.ep, .int .i64 s.ln, .slice (some ⟨s.g, 0, none⟩) 4 s.c]
def rowS : Nat → List Str → List Value
  | _, [] => []
  | i, s :: L => scells i s ++ rowS (i + 1) L
theorem rowS_get : ∀ (L : List Str) (i j k : Nat) (s : Str), L[j]? = some s → k < 6 → (rowS i L)[j * 6 + k]? = (scells (i + j) s)[k]?
  | [], _, _, _, _, h, _ => by simp at h
  | t :: L, i, 0, k, s, h, hk => by
    simp only [List.getElem?_cons_zero, Option.some.injEq] at h
    subst h
    have : k < (scells i t).length := hk
    simp only [rowS, Nat.zero_mul, Nat.zero_add, Nat.add_zero]
    rw [List.getElem?_append_left this]
  | t :: L, i, j + 1, k, s, h, hk => by
    simp only [List.getElem?_cons_succ] at h
    have e : (scells i t).length = 6 := rfl
    simp only [rowS]
    rw [List.getElem?_append_right (by rw [e]; omega), e, show (j + 1) * 6 + k - 6 = j * 6 + k from by omega, rowS_get L (i + 1) j k s h hk]
    congr 2
    omega
theorem rowS_append : ∀ (L : List Str) (i : Nat) (s : Str), rowS i (L ++ [s]) = rowS i L ++ scells (i + L.length) s
  | [], i, s => by simp [rowS]
  | t :: L, i, s => by
    simp only [List.cons_append, rowS, rowS_append L (i + 1) s, List.length_cons, List.append_assoc]
    congr 3
    omega
theorem rowS_set : ∀ (L : List Str) (i j : Nat) (s : Str) (v : Int), L[j]? = some s → (rowS i L).set (j * 6 + 1) (.int .i64 v) = rowS i (L.set j { s with st := v })
  | [], _, _, _, _, h => by simp at h
  | t :: L, i, 0, s, v, h => by
    simp only [List.getElem?_cons_zero, Option.some.injEq] at h
    subst h
    rfl
  | t :: L, i, j + 1, s, v, h => by
    simp only [List.getElem?_cons_succ] at h
    have e : (scells i t).length = 6 := rfl
    simp only [rowS, List.set_cons_succ]
    rw [List.set_append_right _ _ (by rw [e]; omega), e, show (j + 1) * 6 + 1 - 6 = j * 6 + 1 from by omega, rowS_set L (i + 1) j s v h]
/-- Three numbers in a row. -/
def Srv (w : World) (s : Str) : Prop := w.ownsRow 0 3 1 (.slice (some ⟨s.g, 0, none⟩) 4 s.c) 4 (nums s.xs)
/-- The map of stripes in blocks of S. -/
def Smp (S : Nat → Prop) (w : World) (g : Nat) (L : List Str) : Prop :=
  ∃ (A : Option Addr) (c : Nat), Blk w g 156 #[.slice A L.length c, .int .i64 L.length] ∧ w.ownsRow 0 37 6 (.slice A L.length c) L.length (rowS 0 L) ∧
    S g ∧ (∀ ad, A = some ad → S ad.block) ∧ (∀ s ∈ L, S s.g ∧ Srv w s) ∧ (L.map Str.g).Nodup
section
variable {S : Nat → Prop} {w w' : World} {g : Nat} {L : List Str}
theorem Srv.keep {s : Str} (h : Srv w s) (hk : s.g < w.heap.size → w'.heap[s.g]? = w.heap[s.g]?) : Srv w' s := by
  exact own_at h fun ad e hlt => by cases e; exact hk hlt
theorem Smp.keep (h : Smp S w g L) (hk : ∀ k, S k → k < w.heap.size → w'.heap[k]? = w.heap[k]?) : Smp S w' g L := by
  obtain ⟨A, c, h1, h2, h3, h4, h5, h6⟩ := h
  exact ⟨A, c, (hk _ h3 h1.lt).trans h1, own_at h2 fun ad e hlt => hk _ (h4 ad e) hlt, h3, h4, fun s hs => ⟨(h5 s hs).1, (h5 s hs).2.keep (hk _ (h5 s hs).1)⟩, h6⟩
/-- Where a stripe stands. -/
structure AtS (S : Nat → Prop) (w : World) (g : Nat) (L : List Str) (r : Nat) : Prop where
  row : ∃ c, Blk w g 156 #[.slice (some ⟨r, 0, none⟩) L.length c, .int .i64 L.length] ∧ w.ownsRow 0 37 6 (.slice (some ⟨r, 0, none⟩) L.length c) L.length (rowS 0 L)
  sg : S g
  sr : S r
  srv : ∀ s ∈ L, S s.g ∧ Srv w s
  nd : (L.map Str.g).Nodup
theorem Smp.at_ (h : Smp S w g L) {j : Nat} (hj : j < L.length) : ∃ r, AtS S w g L r := by
  obtain ⟨A, c, h1, h2, h3, h4, h5, hnd⟩ := h
  rcases own_blk h2 with ⟨_, h6, _⟩ | ⟨r, cur, rfl, _⟩
  · omega
  · exact ⟨r, ⟨c, h1, h2⟩, h3, h4 _ rfl, h5, hnd⟩
theorem AtS.smp {r : Nat} (h : AtS S w g L r) : Smp S w g L := by
  obtain ⟨⟨c, h1, h2⟩, h3, h4, h5, h6⟩ := h
  exact ⟨_, c, h1, h2, h3, fun ad e => by cases e; exact h4, h5, h6⟩
theorem AtS.cell {r : Nat} (h : AtS S w g L r) {j k : Nat} {s : Str} (hs : L[j]? = some s) (hk : k < 6) : w.cell? ⟨r, j * 6 + k, none⟩ = (scells j s)[k]? := by
  obtain ⟨⟨c, h1, h2⟩, _⟩ := h
  have hj : j < L.length := (List.getElem?_eq_some_iff.1 hs).1
  have := rowS_get L 0 j k s hs hk
  rw [Nat.zero_add] at this
  rw [h2.cellAt (j * 6 + k) (by omega)]
  exact this
theorem sAt_ok {r : Nat} (h : AtS S w g L r) (j : Nat) (hj : j < L.length) : Calls Tryz.prog 102 #[.pointer (some ⟨g, 0, none⟩), .int .i64 j] w fun e w' => e = .returned (.pointer (some ⟨r, j * 6, none⟩)) ∧ w = w' := by
  obtain ⟨⟨c, h1, h2⟩, _⟩ := h
  have e0 : w.cell? ⟨g, 0, none⟩ = some (.slice (some ⟨r, 0, none⟩) L.length c) := (h1.cell 0).trans rfl
  have d1 : decide (L.length ≤ j) = false := by simp; omega
  have hlc := (own_holdsS h2).2.1
  clear h1 h2
  go_enter Tryz.func102, Tryz.ntmps102
  go_wp2_with fail
  go_ret
  exact ⟨rfl, rfl⟩
end
end Go.Proofs.YtopbojifllnckaaGreatDoor.F
namespace Go.Proofs.YtopbojifllnckaaGreatDoor.F
open Go.RowKit
attribute [local irreducible] wpQuiet
/-- Three numbers in new memory. -/
def Own4 (w w' : World) (v : Value) (xs : List Int) : Prop := w'.ownsRow w.heap.size 3 1 v 4 (nums xs)
section
variable {S : Nat → Prop} {w w' : World} {g r : Nat} {L : List Str}
theorem AtS.below (h : AtS S w g L r) (hb : Below w.heap.size w w') : AtS S w' g L r := by
  obtain ⟨⟨c, h1, h2⟩, h3, h4, h5, h6⟩ := h
  exact ⟨⟨c, h1.below hb h1.lt, own_keep h2 fun k _ hk => hb.block k hk⟩, h3, h4, fun s hs => ⟨(h5 s hs).1, (h5 s hs).2.keep fun hk => hb.block _ hk⟩, h6⟩
theorem AtS.lt (h : AtS S w g L r) : r < w.heap.size := by
  obtain ⟨⟨c, h1, h2⟩, _⟩ := h
  rcases own_blk h2 with ⟨h3, _⟩ | ⟨r', cur, h3, _, h4, _⟩
  · cases h3
  · cases h3; exact h4.lt
theorem AtS.six (h : AtS S w g L r) {j : Nat} {s : Str} (hs : L[j]? = some s) : w.cell? ⟨r, j * 6, none⟩ = some (.int .i64 j) ∧ w.cell? ⟨r, j * 6 + 1, none⟩ = some (.int .i64 s.st) ∧ w.cell? ⟨r, j * 6 + 2, none⟩ = some (.int .i64 s.ow) ∧ w.cell? ⟨r, j * 6 + 3, none⟩ = some (.int .i64 s.ep) ∧
    w.cell? ⟨r, j * 6 + 4, none⟩ = some (.int .i64 s.ln) ∧ w.cell? ⟨r, j * 6 + 5, none⟩ = some (.slice (some ⟨s.g, 0, none⟩) 4 s.c) :=
  ⟨(h.cell (k := 0) hs (by omega)).trans rfl, (h.cell (k := 1) hs (by omega)).trans rfl, (h.cell (k := 2) hs (by omega)).trans rfl, (h.cell (k := 3) hs (by omega)).trans rfl, (h.cell (k := 4) hs (by omega)).trans rfl, (h.cell (k := 5) hs (by omega)).trans rfl⟩
set_option maxRecDepth 100000 in
set_option maxHeartbeats 800000 in
theorem sGet_ok (h : AtS S w g L r) (j : Nat) (s : Str) (hs : L[j]? = some s) : Calls Tryz.prog 44 #[.pointer (some ⟨g, 0, none⟩), .int .i64 j] w fun e w' => ∃ v, e = .returned (.tuple #[.agg #[.int .i64 j, .int .i64 s.st, .int .i64 s.ow, .int .i64 s.ep, .int .i64 s.ln, v], .bool true]) ∧ Own4 w w' v s.xs ∧ Below w.heap.size w w' := by
  have hj : j < L.length := (List.getElem?_eq_some_iff.1 hs).1
  have hrl := h.lt
  have hb0 := (Below.refl w.heap.size w).alloc (Nat.le_refl _) (.cells #[.int .i64 0, .int .i64 0, .int .i64 0, .int .i64 0, .int .i64 0, .slice none 0 0] 37)
  have h0 := h.below hb0
  have hz := gzero w
  have hsz : (w.alloc (.cells #[.int .i64 0, .int .i64 0, .int .i64 0, .int .i64 0, .int .i64 0, .slice none 0 0] 37)).heap.size = w.heap.size + 1 := by simp
  obtain ⟨W, hW⟩ : ∃ W, W = w.alloc (.cells #[.int .i64 0, .int .i64 0, .int .i64 0, .int .i64 0, .int .i64 0, .slice none 0 0] 37) := ⟨_, rfl⟩
  rw [← hW] at hb0 h0 hz hsz
  have hc := hid (sAt_ok h0 j hj)
  obtain ⟨a0, a1, a2, a3, a4, a5⟩ := h0.six hs
  have hxs := (h0.srv s (List.mem_of_getElem? hs)).2
  unfold Srv at hxs
  rw [hW] at hc
  have HW := hid hW
  have HZ := hid hz
  have HS := hid hsz
  have HB := hid hb0
  have HX := hid hxs
  clear h h0 hz hsz hb0 hxs hW
  go_enter Tryz.func44, Tryz.ntmps44
  go_wp2_with fail
  refine hc.out.mono ?_
  rintro e w1 ⟨rfl, he⟩
  rw [← HW.out] at he
  subst he
  go_wp2_with fail
  have hX := (Blk.new W 37 #[.int .i64 (j : Int), .int .i64 s.st, .int .i64 s.ow, .int .i64 s.ep, .int .i64 s.ln, .slice (some ⟨s.g, 0, none⟩) 4 s.c])
  have hlen : s.xs.length = 4 := by have := HX.out.1; rw [nums_length] at this; omega
  have hh := (own_holdsS HX.out).1.keep fun k hk => Below.heap_alloc W (.cells #[.int .i64 (j : Int), .int .i64 s.st, .int .i64 s.ow, .int .i64 s.ep, .int .i64 s.ln, .slice (some ⟨s.g, 0, none⟩) 4 s.c] 37) k hk
  refine (clone_any (c := s.c) hh hlen (by simp) (by omega)).mono ?_
  rintro e w2 ⟨v, rfl, h1, h2⟩
  unfold NewInts at h1
  rw [hlen] at h1
  obtain ⟨A', c', rfl⟩ := own_form h1
  have hX2 := hX.below h2 (by simp)
  have hZ2 := ((HZ.out.alloc _).below h2 (by have := HZ.out.lt; simp; omega))
  obtain ⟨x0, x1, x2, x3, x4, x5⟩ := agg6 hX2
  obtain ⟨z0, z1, z2, z3, z4, z5⟩ := agg6 hZ2
  have fx := hX2.frozen 5
  have f0 := hZ2.frozen 0; have f1 := hZ2.frozen 1; have f2 := hZ2.frozen 2; have f3 := hZ2.frozen 3; have f4 := hZ2.frozen 4; have f5 := hZ2.frozen 5
  have hne : W.heap.size ≠ w.heap.size := by have := HS.out; omega
  have hne2 : w.heap.size ≠ W.heap.size := Ne.symm hne
  have HL := hid hlen
  have H1 := hid h1
  have H2 := hid h2
  clear h1 h2 hX hX2 hZ2 hh hlen
  go_wp2_with fail
  refine bodyPost_ret (v := .tuple #[.agg #[.int .i64 j, .int .i64 s.st, .int .i64 s.ow, .int .i64 s.ep, .int .i64 s.ln, .slice A' 4 c'], .bool true]) (by simp [results, Tryz.results44, go_sem, z0, z1, z2, z3, z4, z5]) rfl ⟨_, rfl, ?_, ?_⟩
  · have hs1 := HS.out
    have hq : ∀ (V : World) (b i : Nat) (u : Value), b < W.heap.size + 1 → V.ownsRow (W.heap.size + 1) 3 1 (.slice A' 4 c') 4 (nums s.xs) → (V.setCell ⟨b, i, none⟩ u).ownsRow (W.heap.size + 1) 3 1 (.slice A' 4 c') 4 (nums s.xs) := fun V b i u hb h => own_far h b i hb u
    have h := H1.out
    simp only [World.alloc, Array.size_push] at h
    exact own_lower (hq _ _ _ _ (by omega) (hq _ _ _ _ (by omega) (hq _ _ _ _ (by omega) (hq _ _ _ _ (by omega) (hq _ _ _ _ (by omega) (hq _ _ _ _ (by omega) (hq _ _ _ _ (by omega) h))))))) (by omega)
  · have hs1 := HS.out
    have h2 := (((HB.out.alloc (by omega) _).trans (H2.out.mono (by simp; omega))).setCell (p := ⟨W.heap.size, 5, none⟩) (by show w.heap.size ≤ W.heap.size; omega) (.slice A' 4 c'))
    exact below_six (Nat.le_refl _) h2
end
end Go.Proofs.YtopbojifllnckaaGreatDoor.F
namespace Go.Proofs.YtopbojifllnckaaGreatDoor.F
open Go.RowKit
attribute [local irreducible] wpQuiet
/-- How a call of a map of stripes ends. -/
def SEnd (S : Nat → Prop) (w : World) (g : Nat) (L' : List Str) (w' : World) : Prop := Smp S w' g L' ∧ Only S w w' ∧ w'.heap.size = w.heap.size
theorem map_set_same {α β : Type} (f : α → β) (L : List α) (j : Nat) (s s' : α) (hs : L[j]? = some s) (hf : f s' = f s) : (L.set j s').map f = L.map f := by
  refine List.ext_getElem? fun i => ?_
  by_cases e : j = i
  · subst e
    have := (List.getElem?_eq_some_iff.1 hs).1
    rw [List.getElem?_map, List.getElem?_map, List.getElem?_set_self this, hs]
    simp [hf]
  · rw [List.getElem?_map, List.getElem?_map, List.getElem?_set_ne e]
section
variable {S : Nat → Prop} {w w' : World} {g r : Nat} {L : List Str}
/-- A state is written. -/
theorem AtS.state (h : AtS S w g L r) {j : Nat} {s : Str} (hs : L[j]? = some s) (v : Int) : AtS S (w.setCell ⟨r, j * 6 + 1, none⟩ (.int .i64 v)) g (L.set j { s with st := v }) r := by
  obtain ⟨⟨c, h1, h2⟩, h3, h4, h5, hnd⟩ := h
  rcases own_blk h2 with ⟨h6, _⟩ | ⟨r', cur, h6, _, h7, h8, h9, h10, h11⟩
  · cases h6
  cases h6
  have hst := h2.stored (j * 6 + 1) (.int .i64 v)
  have hsl : (L.set j { s with st := v }).length = L.length := List.length_set
  refine ⟨⟨c, ?_, ?_⟩, h3, h4, fun t ht => ?_, by rw [map_set_same Str.g L j s { s with st := v } hs rfl]; exact hnd⟩
  · rw [hsl]
    exact h1.far (h1.ne_ h7 (by decide)) _
  · rw [hsl]
    have := rowS_set L 0 j s v hs
    rw [← this]
    exact hst.1
  · rcases List.mem_or_eq_of_mem_set ht with ht | rfl
    · obtain ⟨h12, h13⟩ := h5 t ht
      exact ⟨h12, own_at h13 fun ad e hlt => Below.heap_setCell w _ _ _ (by
        cases e
        rcases own_blk h13 with ⟨h14, _⟩ | ⟨q, cur', h14, _, h15, _⟩
        · cases h14
        · cases h14
          exact h15.ne_ h7 (by decide))⟩
    · obtain ⟨h12, h13⟩ := h5 s (List.mem_of_getElem? hs)
      refine ⟨h12, own_at h13 fun ad e hlt => Below.heap_setCell w _ _ _ (by
        cases e
        rcases own_blk h13 with ⟨h14, _⟩ | ⟨q, cur', h14, _, h15, _⟩
        · cases h14
        · cases h14
          exact h15.ne_ h7 (by decide))⟩
theorem AtS.frozen (h : AtS S w g L r) (i : Nat) : w.frozen? ⟨r, i, none⟩ = false := by
  obtain ⟨⟨c, h1, h2⟩, _⟩ := h
  exact h2.frozenAt i
set_option maxRecDepth 100000 in
set_option maxHeartbeats 800000 in
theorem sCommit4 (h : Smp S w g L) {j : Nat} {s : Str} (hs : L[j]? = some s) (h1 : s.st = 1) : Calls Tryz.prog 158 #[.pointer (some ⟨g, 0, none⟩), .int .i64 j, .int .i64 s.ow] w fun e w' => e = .returned (.int .i64 0) ∧ SEnd S w g (L.set j { s with st := 2 }) w' := by
  have hj : j < L.length := (List.getElem?_eq_some_iff.1 hs).1
  obtain ⟨r, hr⟩ := h.at_ hj
  have hc := hid (sAt_ok hr j hj)
  obtain ⟨a0, a1, a2, _⟩ := hr.six hs
  have f1 := hr.frozen (j * 6 + 1)
  have H2 : Hid (SEnd S w g (L.set j { s with st := 2 }) (w.setCell ⟨r, j * 6 + 1, none⟩ (.int .i64 2))) := ⟨(hr.state hs 2).smp, setS hr.sr _ _ (Only.refl _ _), by simp [World.setCell]⟩
  have d1 : (s.st != 1) = false := by simp [h1]
  clear h hr hs hj h1
  go_enter Tryz.func158, Tryz.ntmps158
  go_wp2_with fail
  refine hc.out.mono ?_
  rintro e w1 ⟨rfl, rfl⟩
  go_wp2_with fail
  go_ret
  exact ⟨rfl, H2.out⟩
end
end Go.Proofs.YtopbojifllnckaaGreatDoor.F
namespace Go.Proofs.YtopbojifllnckaaGreatDoor.F
open Go.RowKit
attribute [local irreducible] wpQuiet
set_option maxHeartbeats 1000000 in
theorem sgroup_at {A : Option Addr} {n c B : Nat} {xs : List Int} {w : World} (h : Hid (IntsAt w B A xs)) (hn : xs.length = n) (hc : n ≤ c) (hl : c ≤ maxLen) :
    Calls Tryz.prog 289 #[.slice A n c] w fun e w' => e = .returned (.bool (grpB xs)) ∧ w = w' := by
  have hl' : n ≤ 9223372036854775807 := by unfold maxLen at hl; omega
  by_cases h2 : n < 2
  · rw [grp_short (by omega)]
    go_enter Tryz.func289, Tryz.ntmps289
    go_wp2_with fail
    go_ret
    exact ⟨rfl, rfl⟩
  · by_cases h8 : 8 < n
    · rw [grp_short (by omega)]
      go_enter Tryz.func289, Tryz.ntmps289
      go_wp2_with fail
      go_ret
      exact ⟨rfl, rfl⟩
    · have hr := hid (grp_mid (xs := xs) (by omega))
      obtain ⟨r, hrr⟩ : ∃ r, r = grpB xs := ⟨_, rfl⟩
      rw [← hrr]
      have HR : Hid (r = apartB xs) := hid (hrr.trans hr.out)
      clear hr hrr
      go_enter Tryz.func289, Tryz.ntmps289
      go_wp2
      go_loop [15] (fun i => ∃ k : Nat, k ≤ n ∧ i = .int .i64 k ∧ Hid (∀ j, j < k → okAt xs j = true)) (fun i => n - (intOf i).toNat)
      case atStart => exact ⟨0, by omega, rfl, fun j hj => absurd hj (by omega)⟩
      case round =>
        obtain ⟨k, hk, rfl, hs⟩ := hrel
        by_cases hkn : k < n
        · obtain ⟨ad, rfl, _, hcc⟩ := h.out (by omega)
          have hc1 := hcc k (by omega)
          obtain ⟨y, hy⟩ : ∃ y, y = xs.getD k 0 := ⟨_, rfl⟩
          rw [← hy] at hc1
          have HY := hid hy
          clear hy hcc
          have hT := hid (h.out.take k)
          have hlen : (xs.take k).length = k := by rw [List.length_take]; omega
          have HL := hid hlen
          clear hlen
          by_cases h0 : y < 0
          · go_wp2
            go_ret
            have : okAt xs k = false := by unfold okAt; rw [← HY.out]; simp; omega
            rw [HR.out, apart_no (by omega) this]
            exact ⟨rfl, rfl⟩
          · by_cases h63 : 64 ≤ y
            · go_wp2
              go_ret
              have : okAt xs k = false := by unfold okAt; rw [← HY.out]; simp; omega
              rw [HR.out, apart_no (by omega) this]
              exact ⟨rfl, rfl⟩
            · obtain ⟨z, hz⟩ : ∃ z, z = atI (xs.take k) y := ⟨_, rfl⟩
              have hcall := fun (c' : Nat) => has_any (w := w) (c := c') y hT HL.out (by omega)
              rw [← hz] at hcall
              have hkc : k ≤ c := by omega
              have HZ := hid hz
              have HC := hid hcall
              clear hz hcall
              by_cases hz0 : 0 ≤ z
              · go_wp2_with fail
                refine (HC.out _).mono ?_
                rintro e w' ⟨rfl, rfl⟩
                go_wp2_with fail
                go_ret
                have : okAt xs k = false := by unfold okAt; rw [← HY.out, ← HZ.out]; simp; omega
                rw [HR.out, apart_no (by omega) this]
                exact ⟨rfl, rfl⟩
              · go_wp2_with fail
                refine (HC.out _).mono ?_
                rintro e w' ⟨rfl, rfl⟩
                go_wp2_with fail
                go_round
                case rel => exact ⟨k + 1, by omega, by go_num, hid fun j hj => by
                  rcases Nat.lt_or_ge j k with h1 | h1
                  · exact hs.out j h1
                  · obtain rfl : j = k := by omega
                    unfold okAt; rw [← HY.out, ← HZ.out]; simp; omega⟩
                case measure => simp [intOf]; omega
        · obtain rfl : k = n := by omega
          go_wp2
          go_ret
          rw [HR.out, apart_yes (by rw [hn]; exact hs.out)]
          exact ⟨rfl, rfl⟩
set_option maxRecDepth 100000 in
set_option maxHeartbeats 800000 in
theorem smay4 {w : World} {B c : Nat} {A : Option Addr} {xs : List Int} (h : Holds w B A (nums xs)) (hn : xs.length = 4) (hc : 4 ≤ c) (hcm : c ≤ maxLen) (hB : B ≤ w.heap.size) (i st ow ep ln : Int) (hg : grpB xs = true) (h0 : 0 ≤ ow ∧ ow < 16 ∧ 1 ≤ ep ∧ 0 ≤ ln ∧ ln ≤ 65536) :
    Calls Tryz.prog 223 #[.agg #[.int .i64 i, .int .i64 st, .int .i64 ow, .int .i64 ep, .int .i64 ln, .slice A 4 c]] w fun e w' => e = .returned (.bool true) ∧ Below w.heap.size w w' := by
  have hh : Holds (w.alloc (.cells #[.int .i64 i, .int .i64 st, .int .i64 ow, .int .i64 ep, .int .i64 ln, .slice A 4 c] 37)) B A (nums xs) := h.keep fun k hk => Below.heap_alloc w (.cells #[.int .i64 i, .int .i64 st, .int .i64 ow, .int .i64 ep, .int .i64 ln, .slice A 4 c] 37) k (by omega)
  have hc1 := sgroup_at (w := w.alloc (.cells #[.int .i64 i, .int .i64 st, .int .i64 ow, .int .i64 ep, .int .i64 ln, .slice A 4 c] 37)) (hid (IntsAt.of_holds hh)) hn hc hcm
  rw [hg] at hc1
  have HC := hid hc1
  have hb := hid ((Below.refl w.heap.size w).alloc (Nat.le_refl _) (.cells #[.int .i64 i, .int .i64 st, .int .i64 ow, .int .i64 ep, .int .i64 ln, .slice A 4 c] 37))
  obtain ⟨q0, q1, q2, q3, q4⟩ := h0
  have d0 : decide (0 ≤ ow) = true := by simp; omega
  have d1 : decide (ow < 16) = true := by simp; omega
  have d2 : decide (1 ≤ ep) = true := by simp; omega
  have d3 : decide (0 ≤ ln) = true := by simp; omega
  have d4 : decide (ln ≤ 65536) = true := by simp; omega
  clear h hn hh hc1 hg
  go_enter Tryz.func223, Tryz.ntmps223
  go_wp2_with fail
  refine HC.out.mono ?_
  rintro e w' ⟨rfl, rfl⟩
  go_wp2_with fail
  go_ret
  exact ⟨rfl, hb.out⟩
theorem Smp.mono {S T : Nat → Prop} {w : World} {g : Nat} {L : List Str} (h : Smp S w g L) (hST : ∀ k, S k → T k) : Smp T w g L := by
  obtain ⟨A, c, h1, h2, h3, h4, h5, h6⟩ := h
  exact ⟨A, c, h1, h2, hST _ h3, fun ad e => hST _ (h4 ad e), fun s hs => ⟨hST _ (h5 s hs).1, (h5 s hs).2⟩, h6⟩
/-- How Begin ends. -/
def BEnd (S : Nat → Prop) (w : World) (g : Nat) (L : List Str) (ow ep ln : Int) (xs : List Int) (e : Ending) (w' : World) : Prop :=
  Only S w w' ∧ ∃ q c, e = .returned (.tuple #[.int .i64 L.length, .int .i64 0]) ∧ Smp (Grow S w w') w' g (L ++ [⟨1, ow, ep, ln, q, c, xs⟩])
section
variable {S : Nat → Prop} {w : World} {g : Nat} {L : List Str} {B c : Nat} {A : Option Addr} {xs : List Int}
/-- The last step of Begin. -/
theorem begin_end {W W' : World} {A0 A2 : Option Addr} {c0 c1 c2 q p : Nat} {ow ep ln : Int} {T : Array Value} (hSB : ∀ k, S k → k < w.heap.size) (hD : Smp S W g L) (hb : Blk W g 156 #[.slice A0 L.length c0, .int .i64 L.length]) (hrow0 : W.ownsRow 0 37 6 (.slice A0 L.length c0) L.length (rowS 0 L)) (hS0 : ∀ ad, A0 = some ad → S ad.block)
    (hB : Below w.heap.size w W) (hq : W.ownsRow w.heap.size 3 1 (.slice (some ⟨q, 0, none⟩) 4 c1) 4 (nums xs)) (hp : Blk W p 37 T)
    (hT : T = #[.int .i64 (L.length : Int), .int .i64 1, .int .i64 ow, .int .i64 ep, .int .i64 ln, .slice (some ⟨q, 0, none⟩) 4 c1])
    (h1 : W'.ownsRow 0 37 6 (.slice A2 (L.length + 1) c2) (L.length + 1) (rowS 0 L ++ T.toList)) (h2 : W.heap.size ≤ W'.heap.size) (h3 : ∀ k, k < W.heap.size → (Value.slice A0 L.length c0).ownBlock ≠ some k → W'.heap[k]? = W.heap[k]?)
    (h4 : W'.os = W.os ∧ W'.tape = W.tape ∧ W'.output = W.output) (h5 : (Value.slice A2 (L.length + 1) c2).ownBlock = (Value.slice A0 L.length c0).ownBlock ∨ (Value.slice A2 (L.length + 1) c2).ownBlock = some (W.heap.size + 1)) :
    Only S w ((W'.setCell ⟨g, 0, none⟩ (.slice A2 (L.length + 1) c2)).setCell ⟨g, 1, none⟩ (.int .i64 ((L.length : Int) + 1))) ∧
    Smp (Grow S w ((W'.setCell ⟨g, 0, none⟩ (.slice A2 (L.length + 1) c2)).setCell ⟨g, 1, none⟩ (.int .i64 ((L.length : Int) + 1)))) ((W'.setCell ⟨g, 0, none⟩ (.slice A2 (L.length + 1) c2)).setCell ⟨g, 1, none⟩ (.int .i64 ((L.length : Int) + 1))) g (L ++ [⟨1, ow, ep, ln, q, c1, xs⟩]) := by
  subst hT
  obtain ⟨A1, c3, k1, k2, hsg, k4, hsv, hnd⟩ := hD
  have hown : ∀ r, (Value.slice A0 L.length c0).ownBlock = some r → S r ∧ ∃ cur, Blk W r 37 cur := fun r e => by
    rcases own_blk hrow0 with ⟨rfl, _⟩ | ⟨r', cur, rfl, _, h7, _⟩
    · cases e
    · cases e; exact ⟨hS0 _ rfl, cur, h7⟩
  have hgo : ∀ k t cur, Blk W k t cur → t ≠ 37 → (Value.slice A0 L.length c0).ownBlock ≠ some k := fun k t cur hk ht e => by
    obtain ⟨_, cur', hk'⟩ := hown k e
    exact hk.ne_ hk' ht rfl
  have hbg : Blk W' g 156 #[.slice A0 L.length c0, .int .i64 L.length] := (h3 g hb.lt (hgo g _ _ hb (by decide))).trans hb
  have hl : (L ++ [(⟨1, ow, ep, ln, q, c1, xs⟩ : Str)]).length = L.length + 1 := by simp
  have hz : ((W'.setCell ⟨g, 0, none⟩ (.slice A2 (L.length + 1) c2)).setCell ⟨g, 1, none⟩ (.int .i64 ((L.length : Int) + 1))).heap.size = W'.heap.size := by simp [World.setCell]
  have hkeep : ∀ k, k ≠ g → ((W'.setCell ⟨g, 0, none⟩ (.slice A2 (L.length + 1) c2)).setCell ⟨g, 1, none⟩ (.int .i64 ((L.length : Int) + 1))).heap[k]? = W'.heap[k]? := fun k hk => (Below.heap_setCell _ _ _ k hk).trans (Below.heap_setCell _ _ _ k hk)
  have hints : ∀ (b t cc : Nat) (ys : List Int), W.ownsRow t 3 1 (.slice (some ⟨b, 0, none⟩) 4 cc) 4 (nums ys) → ((W'.setCell ⟨g, 0, none⟩ (.slice A2 (L.length + 1) c2)).setCell ⟨g, 1, none⟩ (.int .i64 ((L.length : Int) + 1))).ownsRow 0 3 1 (.slice (some ⟨b, 0, none⟩) 4 cc) 4 (nums ys) := fun b t cc ys hy => by
    rcases own_blk hy with ⟨e, _⟩ | ⟨b', cur, e, _, h7, _⟩
    · cases e
    · cases e
      refine own_lower (own_at hy fun ad e hlt => ?_) (Nat.zero_le _)
      cases e
      exact (hkeep b (h7.ne_ hb (by decide))).trans (h3 b hlt (hgo b _ _ h7 (by decide)))
  refine ⟨⟨h4.1.trans hB.os, h4.2.1.trans hB.tape, h4.2.2.trans hB.output, by rw [hz]; exact Nat.le_trans hB.size h2, fun k hk hs => ?_⟩, A2, c2, ?_, ?_, .inl hsg, fun ad e => ?_, fun s hs => ?_, ?_⟩
  · exact (hkeep k (fun e => hs (e ▸ hsg))).trans ((h3 k (Nat.lt_of_lt_of_le hk hB.size) (fun e => hs (hown k e).1)).trans (hB.block k hk))
  · rw [hl, Int.natCast_add]
    exact (hbg.set_ 0 _).set_ 1 _
  · rw [hl, rowS_append, Nat.zero_add]
    refine own_at h1 fun ad e hlt => hkeep _ ?_
    subst e
    rcases own_blk h1 with ⟨e, _⟩ | ⟨b', cur, e, _, h7, _⟩
    · cases e
    · cases e
      exact h7.ne_ hbg (by decide)
  · subst e
    rcases own_blk h1 with ⟨e, _⟩ | ⟨b', cur, e, _, h7, _⟩
    · cases e
    · cases e
      rcases h5 with h5 | h5
      · exact .inl (hown b' h5.symm).1
      · have e1 : b' = W.heap.size + 1 := by injection h5
        refine .inr ⟨by have := hB.size; show w.heap.size ≤ b'; omega, ?_⟩
        rw [hz]
        exact h7.lt
  · rcases List.mem_append.1 hs with hs | hs
    · obtain ⟨h8, h9⟩ := hsv s hs
      exact ⟨.inl h8, hints _ _ _ _ h9⟩
    · obtain rfl := List.mem_singleton.1 hs
      refine ⟨.inr ⟨?_, ?_⟩, hints _ _ _ _ hq⟩
      · rcases own_blk hq with ⟨e, _⟩ | ⟨b', cur, e, h6, h7, _⟩
        · cases e
        · cases e; exact h6
      · rw [hz]
        rcases own_blk hq with ⟨e, _⟩ | ⟨b', cur, e, h6, h7, _⟩
        · cases e
        · cases e; exact Nat.lt_of_lt_of_le h7.lt h2
  · rw [List.map_append, List.nodup_append]
    refine ⟨hnd, by simp, fun a ha b hb2 e => ?_⟩
    obtain ⟨s, hs, rfl⟩ := List.mem_map.1 ha
    simp only [List.map_cons, List.map_nil, List.mem_singleton] at hb2
    have h8 := hSB _ (hsv s hs).1
    rcases own_blk hq with ⟨e2, _⟩ | ⟨b', cur, e2, h6, _⟩
    · cases e2
    · cases e2
      omega
set_option maxRecDepth 100000 in
set_option maxHeartbeats 1600000 in
theorem sBegin4 (h : Smp S w g L) (hSB : ∀ k, S k → k < w.heap.size) (ow ep ln : Int) (hh : Holds w B A (nums xs)) (hB : B ≤ w.heap.size) (hx : xs.length = 4) (hL : L.length < 200) (hg : grpB xs = true) (h0 : 0 ≤ ow ∧ ow < 16 ∧ 1 ≤ ep ∧ 0 ≤ ln ∧ ln ≤ 65536) :
    Calls Tryz.prog 156 #[.pointer (some ⟨g, 0, none⟩), .int .i64 ow, .int .i64 ep, .int .i64 ln, .slice A 4 c] w fun e w' => BEnd S w g L ow ep ln xs e w' := by
  have hc := hid (clone_any (c := c) hh hx hB (by omega))
  have H := hid h
  have HX := hid hx
  have HSB := hid hSB
  have HG := hid (And.intro hg h0)
  clear h hh hx hSB hg h0
  go_enter Tryz.func156, Tryz.ntmps156
  go_wp2_with fail
  refine hc.out.mono ?_
  rintro e w1 ⟨v, rfl, h1, h2⟩
  unfold NewInts at h1
  rw [HX.out] at h1
  obtain ⟨A1, c1, rfl⟩ := own_form h1
  obtain ⟨q, cur, rfl, hwq⟩ : ∃ q cur, A1 = some ⟨q, 0, none⟩ ∧ w.heap.size ≤ q ∧ Blk w1 q 3 cur := by
    rcases own_blk h1 with ⟨_, h3, _⟩ | ⟨q, cur, h3, h4, h5, _⟩
    · omega
    · exact ⟨q, cur, h3, h4, h5⟩
  have hs1 := h2.size
  have H1 := hid h1
  have H2 := hid h2
  have hc31 := (own_holdsS h1).2.1
  have hc32 : c1 ≤ maxLen := by
    rcases own_blk h1 with ⟨_, h3, _⟩ | ⟨_, _, _, _, _, _, h6, _⟩
    · omega
    · exact h6
  clear h1 h2
  go_wp2_with fail
  have hX := Blk.new w1 37 #[.int .i64 0, .int .i64 1, .int .i64 ow, .int .i64 ep, .int .i64 ln, .slice (some ⟨q, 0, none⟩) 4 c1]
  refine (smay4 (own_holdsS (H1.out.alloc (.cells #[.int .i64 0, .int .i64 1, .int .i64 ow, .int .i64 ep, .int .i64 ln, .slice (some ⟨q, 0, none⟩) 4 c1] 37))).1 HX.out hc31 hc32 (Nat.le_refl _) 0 1 ow ep ln HG.out.1 HG.out.2).mono ?_
  rintro e w3 ⟨rfl, h3⟩
  have hz2 : (w1.alloc (.cells #[.int .i64 0, .int .i64 1, .int .i64 ow, .int .i64 ep, .int .i64 ln, .slice (some ⟨q, 0, none⟩) 4 c1] 37)).heap.size = w1.heap.size + 1 := by simp
  have hB3 := (H2.out.alloc hs1 (.cells #[.int .i64 0, .int .i64 1, .int .i64 ow, .int .i64 ep, .int .i64 ln, .slice (some ⟨q, 0, none⟩) 4 c1] 37)).trans (h3.mono (by rw [hz2]; omega))
  have hX3 := hX.below h3 (by rw [hz2]; omega)
  have hR3 : w3.ownsRow w.heap.size 3 1 (.slice (some ⟨q, 0, none⟩) 4 c1) 4 (nums xs) := own_keep (H1.out.alloc _) fun k _ hk => h3.block k hk
  have hS3 : Smp S w3 g L := H.out.keep fun k _ hk => hB3.block k hk
  have hs3 := h3.size
  rw [hz2] at hs3
  clear h3 hX hz2
  · obtain ⟨A0, c0, hb0, hrow, hsg, hsr, hsv, hnd⟩ := hS3
    have e0 : w3.cell? ⟨g, 0, none⟩ = some (.slice A0 L.length c0) := (hb0.cell 0).trans rfl
    have e1 : w3.cell? ⟨g, 1, none⟩ = some (.int .i64 L.length) := (hb0.cell 1).trans rfl
    have hS3 : Hid (Smp S w3 g L) := ⟨A0, c0, hb0, hrow, hsg, hsr, hsv, hnd⟩
    have HB3 := hid hB3
    have HD := hid (And.intro hb0 (And.intro hrow (And.intro hsg (And.intro hsr hsv))))
    have hgp : g ≠ w1.heap.size := by have := HSB.out g hsg; omega
    have hpg : w1.heap.size ≠ g := Ne.symm hgp
    obtain ⟨x0, x1, x2, x3, x4, x5⟩ := agg6 hX3
    have fx := hX3.frozen 0
    have HX3 := hid hX3
    have HR3 := hid hR3
    clear hb0 hrow hsg hsr hsv hnd hB3 hX3 hR3
    have hwr : wrap64 ((L.length : Int) + 1) = (L.length : Int) + 1 := by unfold wrap64; omega
    have hwr2 : IntKind.i64.wrap ((L.length : Int) + 1) = (L.length : Int) + 1 := by rw [IntKind.wrap_i64]; omega
    have d0 : decide (256 ≤ (L.length : Int)) = false := by simp; omega
    have d1 : decide (4096 ≤ L.length) = false := by simp; omega
    have d1' : decide ((4096 : Int) ≤ (L.length : Int)) = false := by simp; omega
    go_wp2_with fail
    obtain ⟨W, hW⟩ : ∃ W, W = w3.setCell ⟨w1.heap.size, 0, none⟩ (.int .i64 L.length) := ⟨_, rfl⟩
    rw [← hW]
    have hWz : W.heap.size = w3.heap.size := by rw [hW]; simp [World.setCell]
    have hWb : Blk W w1.heap.size 37 #[.int .i64 L.length, .int .i64 1, .int .i64 ow, .int .i64 ep, .int .i64 ln, .slice (some ⟨q, 0, none⟩) 4 c1] := by rw [hW]; exact HX3.out.set_ 0 _
    have hWk : ∀ k, k ≠ w1.heap.size → W.heap[k]? = w3.heap[k]? := fun k hk => by rw [hW]; exact Below.heap_setCell w3 _ _ k hk
    have hWB : Below w.heap.size w W := by rw [hW]; exact HB3.out.setCell (p := ⟨w1.heap.size, 0, none⟩) hs1 _
    clear e0 e1 x0 x1 x2 x3 x4 x5 fx hW
    have e0 : W.cell? ⟨g, 0, none⟩ = some (.slice A0 L.length c0) := (World.cell?_of_block (hWk g hgp)).trans ((HD.out.1.cell 0).trans rfl)
    obtain ⟨x0, x1, x2, x3, x4, x5⟩ := agg6 hWb
    have n0 : (W.alloc (.cells #[.int .i64 L.length, .int .i64 1, .int .i64 ow, .int .i64 ep, .int .i64 ln, .slice (some ⟨q, 0, none⟩) 4 c1] 37)).drew.cell? ⟨g, 0, none⟩ = some (.slice A0 L.length c0) := (World.cell?_of_block (w := W) (Below.heap_alloc W _ g (World.block_lt_of_cell? W _ e0))).trans e0
    have hrow : W.ownsRow 0 37 6 (.slice A0 L.length c0) L.length (rowS 0 L) := own_at HD.out.2.1 fun ad e hlt => hWk _ (by have := HSB.out _ (HD.out.2.2.2.1 ad e); omega)
    have HROW := hid hrow
    have HWK := hid hWk
    have HWB := hid hWB
    have hlen : Hid ((L.length + 1) * 64 ≤ 140737488355328) := by show _ ≤ _; omega
    have hone : Hid (∀ u ∈ (#[.int .i64 (L.length : Int), .int .i64 1, .int .i64 ow, .int .i64 ep, .int .i64 ln, .slice (some ⟨q, 0, none⟩) 4 c1] : Array Value).toList, u.oneCell' = true) := fun u hu => by
      simp only [List.mem_cons, List.not_mem_nil, or_false] at hu
      rcases hu with rfl | rfl | rfl | rfl | rfl | rfl <;> rfl
    have HWZ := hid hWz
    have hgW : Hid (g < W.heap.size ∧ w1.heap.size < W.heap.size ∧ (Value.slice A0 L.length c0).ownBlock ≠ some g ∧ (Value.slice A0 L.length c0).ownBlock ≠ some w1.heap.size ∧ (∀ r, (Value.slice A0 L.length c0).ownBlock = some r → S r) ∧ (∀ r, (Value.slice A0 L.length c0).ownBlock = some r → ∃ cur, Blk w3 r 37 cur)) := by
      refine ⟨by have := HD.out.1.lt; omega, hWb.lt, ?_, ?_, ?_, ?_⟩ <;> rcases own_blk HD.out.2.1 with ⟨rfl, _⟩ | ⟨r, cur, rfl, _, h7, _⟩
      · simp [Value.ownBlock]
      · intro e; cases e; exact (h7.ne_ HD.out.1 (by decide)) rfl
      · simp [Value.ownBlock]
      · intro e
        have h8 : r < w.heap.size := HSB.out r (HD.out.2.2.2.1 _ rfl)
        have h9 : r = w1.heap.size := by injection e
        omega
      · intro r e; cases e
      · intro r e; cases e; exact HD.out.2.2.2.1 _ rfl
      · intro r e; cases e
      · intro r e; cases e; exact ⟨cur, h7⟩
    have HWBLK := hid hWb
    have HRW : Hid (W.ownsRow w.heap.size 3 1 (.slice (some ⟨q, 0, none⟩) 4 c1) 4 (nums xs)) := own_at HR3.out fun ad e hlt => by
      cases e
      refine HWK.out q fun e => ?_
      rcases own_blk HR3.out with ⟨e2, _⟩ | ⟨b', cur, e2, h6, h7, _⟩
      · cases e2
      · cases e2
        exact h7.ne_ HX3.out (by decide) e
    have HSW : Hid (Smp S W g L) := hS3.out.keep fun k hs hk => HWK.out k (by have := HSB.out k hs; omega)
    clear hrow hWk hWB hWz hWb
    go_region_law ((refine step_appBd _ rfl (.tmp 51) (.tmp 53) 154 37 (.agg #[.int .i64 0, .int .i64 0, .int .i64 0, .int .i64 0, .int .i64 0, .slice none 0 0]) 6 64 rfl Tryz.underlying154 info37 rfl (by decide) (by decide) 0 (.slice A0 L.length c0) L.length (rowS 0 L) rfl (by exact HROW.out) #[.int .i64 (L.length : Int), .int .i64 1, .int .i64 ow, .int .i64 ep, .int .i64 ln, .slice (some ⟨q, 0, none⟩) 4 c1] rfl rfl hone.out hlen.out (Nat.zero_le _) ?_; intro v' w' q1 q2 q3 q4 q5; obtain ⟨A2, c2, rfl⟩ := own_form q1; have hbg : Blk w' g 156 #[.slice A0 L.length c0, .int .i64 L.length] := (q3 g hgW.out.1 hgW.out.2.2.1).trans ((HWK.out g hgp).trans HD.out.1); have hbp : Blk w' w1.heap.size 37 #[.int .i64 L.length, .int .i64 1, .int .i64 ow, .int .i64 ep, .int .i64 ln, .slice (some ⟨q, 0, none⟩) 4 c1] := (q3 _ hgW.out.2.1 hgW.out.2.2.2.1).trans HWBLK.out; have g0 : w'.cell? ⟨g, 0, none⟩ = some (.slice A0 L.length c0) := (hbg.cell 0).trans rfl; have g1 : w'.cell? ⟨g, 1, none⟩ = some (.int .i64 L.length) := (hbg.cell 1).trans rfl; have g2 := hbg.frozen 0; have g3 := hbg.frozen 1; have g4 : w'.cell? ⟨w1.heap.size, 0, none⟩ = some (.int .i64 L.length) := (hbp.cell 0).trans rfl; have Q1 := hid q1; have Q2 := hid (And.intro q2 (And.intro q3 (And.intro q4 (And.intro q5 (And.intro hbg hbp))))); clear q1 q2 q3 q4 q5 hbg hbp))
    all_goals
      go_wp2_with fail
      go_ret2
      obtain ⟨r1, r2⟩ := begin_end HSB.out HSW.out ((HWK.out g hgp).trans HD.out.1) HROW.out HD.out.2.2.2.1 HWB.out HRW.out HWBLK.out rfl Q1.out Q2.out.1 Q2.out.2.1 Q2.out.2.2.1 Q2.out.2.2.2.1
      exact ⟨r1, q, c1, rfl, r2⟩
end
end Go.Proofs.YtopbojifllnckaaGreatDoor.F
