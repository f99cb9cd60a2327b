/- smap: stripes in memory; at. smap: group, may, Get. smap: Get. smap: Commit, Free. -/
import Derived.Test.YtopbojifllnckaaGreatDoorG23
namespace Go.Proofs.YtopbojifllnckaaGreatDoor
open Go.RowKit
attribute [local irreducible] wpQuiet
/-- A stripe; its servers stand in block g. -/
structure Str where
  st : Int
  ow : Int
  ep : Int
  ln : Int
  g : Nat
  c : Nat
def scells (i : Nat) (s : Str) : List Value := [.int .i64 i, .int .i64 s.st, .int .i64 s.ow, .int .i64 s.ep, .int .i64 s.ln, .slice (some ⟨s.g, 0, none⟩) 3 s.c]
def rowS : Nat → List Str → List Value
  | _, [] => []
  | i, s :: L => scells i s ++ rowS (i + 1) L
theorem rowS_length : ∀ (L : List Str) (i : Nat), (rowS i L).length = L.length * 6
  | [], _ => rfl
  | s :: L, i => by
    simp only [rowS, List.length_append, rowS_length L (i + 1), List.length_cons]
    show 6 + _ = _
    omega
theorem rowS_get : ∀ (L : List Str) (i j k : Nat) (s : Str), L[j]? = some s → k < 6 → (rowS i L)[j * 6 + k]? = (scells (i + j) s)[k]?
  | [], _, _, _, _, h, _ => by simp at h
  | t :: L, i, 0, k, s, h, hk => by
    simp only [List.getElem?_cons_zero, Option.some.injEq] at h
    subst h
    have : k < (scells i t).length := hk
    simp only [rowS, Nat.zero_mul, Nat.zero_add, Nat.add_zero]
    rw [List.getElem?_append_left this]
  | t :: L, i, j + 1, k, s, h, hk => by
    simp only [List.getElem?_cons_succ] at h
    have e : (scells i t).length = 6 := rfl
    simp only [rowS]
    rw [List.getElem?_append_right (by rw [e]; omega), e, show (j + 1) * 6 + k - 6 = j * 6 + k from by omega, rowS_get L (i + 1) j k s h hk]
    congr 2
    omega
theorem rowS_append : ∀ (L : List Str) (i : Nat) (s : Str), rowS i (L ++ [s]) = rowS i L ++ scells (i + L.length) s
  | [], i, s => by simp [rowS]
  | t :: L, i, s => by
    simp only [List.cons_append, rowS, rowS_append L (i + 1) s, List.length_cons, List.append_assoc]
    congr 3
    omega
theorem rowS_set : ∀ (L : List Str) (i j : Nat) (s : Str) (v : Int), L[j]? = some s → (rowS i L).set (j * 6 + 1) (.int .i64 v) = rowS i (L.set j { s with st := v })
  | [], _, _, _, _, h => by simp at h
  | t :: L, i, 0, s, v, h => by
    simp only [List.getElem?_cons_zero, Option.some.injEq] at h
    subst h
    rfl
  | t :: L, i, j + 1, s, v, h => by
    simp only [List.getElem?_cons_succ] at h
    have e : (scells i t).length = 6 := rfl
    simp only [rowS, List.set_cons_succ]
    rw [List.set_append_right _ _ (by rw [e]; omega), e, show (j + 1) * 6 + 1 - 6 = j * 6 + 1 from by omega, rowS_set L (i + 1) j s v h]
theorem rowS_one (L : List Str) (i : Nat) : ∀ u ∈ rowS i L, u.oneCell' = true := by
  induction L generalizing i with
  | nil => intro u hu; cases hu
  | cons s L ih =>
    intro u hu
    simp only [rowS, List.mem_append] at hu
    rcases hu with hu | hu
    · simp only [scells, List.mem_cons, List.not_mem_nil, or_false] at hu
      rcases hu with rfl | rfl | rfl | rfl | rfl | rfl <;> rfl
    · exact ih _ u hu
/-- Three numbers in a row. -/
def Srv (w : World) (s : Str) : Prop := ∃ xs : List Int, w.ownsRow 0 3 1 (.slice (some ⟨s.g, 0, none⟩) 3 s.c) 3 (nums xs)
/-- The map of stripes in blocks of S. -/
def Smp (S : Nat → Prop) (w : World) (g : Nat) (L : List Str) : Prop :=
  ∃ (A : Option Addr) (c : Nat) (op : Int), Blk w g 156 #[.slice A L.length c, .int .i64 op] ∧ w.ownsRow 0 37 6 (.slice A L.length c) L.length (rowS 0 L) ∧
    S g ∧ (∀ ad, A = some ad → S ad.block) ∧ ∀ s ∈ L, S s.g ∧ Srv w s
theorem own_blk {w : World} {base e size n c : Nat} {A : Option Addr} {xs : List Value} (h : w.ownsRow base e size (.slice A n c) n xs) : (A = none ∧ n = 0 ∧ c = 0) ∨ ∃ g cur, A = some ⟨g, 0, none⟩ ∧ base ≤ g ∧ Blk w g e cur ∧ n ≤ c ∧ c ≤ maxLen ∧ cur.size = c * size ∧ cur.toList.take (n * size) = xs := by
  rcases h.2 with ⟨h1, h2⟩ | ⟨g, cap, cur, h1, h2, h3, h4, h5, h6, h7⟩
  · cases h1
    exact .inl ⟨rfl, h2, rfl⟩
  · cases h1
    exact .inr ⟨g, cur, rfl, h2, h3, h4, h5, h6, h7⟩
theorem own_at {w w' : World} {base e size n c : Nat} {A : Option Addr} {xs : List Value} (h : w.ownsRow base e size (.slice A n c) n xs) (hk : ∀ ad, A = some ad → ad.block < w.heap.size → w'.heap[ad.block]? = w.heap[ad.block]?) : w'.ownsRow base e size (.slice A n c) n xs := by
  refine ⟨h.1, ?_⟩
  rcases h.2 with h1 | ⟨g, cap, cur, h1, h2, h3, h4⟩
  · exact .inl h1
  · cases h1
    exact .inr ⟨g, _, cur, rfl, h2, (hk _ rfl (Array.getElem?_eq_some_iff.1 h3).1).trans h3, h4⟩
section
variable {S : Nat → Prop} {w w' : World} {g : Nat} {L : List Str}
theorem Srv.keep {s : Str} (h : Srv w s) (hk : s.g < w.heap.size → w'.heap[s.g]? = w.heap[s.g]?) : Srv w' s := by
  obtain ⟨xs, h⟩ := h
  exact ⟨xs, own_at h fun ad e hlt => by cases e; exact hk hlt⟩
theorem Smp.keep (h : Smp S w g L) (hk : ∀ k, S k → k < w.heap.size → w'.heap[k]? = w.heap[k]?) : Smp S w' g L := by
  obtain ⟨A, c, op, h1, h2, h3, h4, h5⟩ := h
  exact ⟨A, c, op, (hk _ h3 h1.lt).trans h1, own_at h2 fun ad e hlt => hk _ (h4 ad e) hlt, h3, h4, fun s hs => ⟨(h5 s hs).1, (h5 s hs).2.keep (hk _ (h5 s hs).1)⟩⟩
/-- Where a stripe stands. -/
structure AtS (S : Nat → Prop) (w : World) (g : Nat) (L : List Str) (r : Nat) : Prop where
  row : ∃ c op, Blk w g 156 #[.slice (some ⟨r, 0, none⟩) L.length c, .int .i64 op] ∧ w.ownsRow 0 37 6 (.slice (some ⟨r, 0, none⟩) L.length c) L.length (rowS 0 L)
  sg : S g
  sr : S r
  srv : ∀ s ∈ L, S s.g ∧ Srv w s
theorem Smp.at_ (h : Smp S w g L) {j : Nat} (hj : j < L.length) : ∃ r, AtS S w g L r := by
  obtain ⟨A, c, op, h1, h2, h3, h4, h5⟩ := h
  rcases own_blk h2 with ⟨_, h6, _⟩ | ⟨r, cur, rfl, _⟩
  · omega
  · exact ⟨r, ⟨c, op, h1, h2⟩, h3, h4 _ rfl, h5⟩
theorem AtS.smp {r : Nat} (h : AtS S w g L r) : Smp S w g L := by
  obtain ⟨⟨c, op, h1, h2⟩, h3, h4, h5⟩ := h
  exact ⟨_, c, op, h1, h2, h3, fun ad e => by cases e; exact h4, h5⟩
theorem AtS.cell {r : Nat} (h : AtS S w g L r) {j k : Nat} {s : Str} (hs : L[j]? = some s) (hk : k < 6) : w.cell? ⟨r, j * 6 + k, none⟩ = (scells j s)[k]? := by
  obtain ⟨⟨c, op, h1, h2⟩, _⟩ := h
  have hj : j < L.length := (List.getElem?_eq_some_iff.1 hs).1
  have := rowS_get L 0 j k s hs hk
  rw [Nat.zero_add] at this
  rw [h2.cellAt (j * 6 + k) (by omega)]
  exact this
theorem sAt_none (h : Smp S w g L) (id : Int) (hid : id < 0 ∨ (L.length : Int) ≤ id) : Calls Tryz.prog 102 #[.pointer (some ⟨g, 0, none⟩), .int .i64 id] w fun e w' => e = .returned (.pointer none) ∧ w = w' := by
  obtain ⟨A, c, op, h1, _⟩ := h
  have e0 : w.cell? ⟨g, 0, none⟩ = some (.slice A L.length c) := (h1.cell 0).trans rfl
  clear h1
  by_cases h0 : id < 0
  · go_enter Tryz.func102, Tryz.ntmps102
    go_wp2_with fail
    go_ret
    exact ⟨rfl, rfl⟩
  · have h2 : (L.length : Int) ≤ id := by omega
    go_enter Tryz.func102, Tryz.ntmps102
    go_wp2_with fail
    go_ret
    exact ⟨rfl, rfl⟩
theorem sAt_ok {r : Nat} (h : AtS S w g L r) (j : Nat) (hj : j < L.length) : Calls Tryz.prog 102 #[.pointer (some ⟨g, 0, none⟩), .int .i64 j] w fun e w' => e = .returned (.pointer (some ⟨r, j * 6, none⟩)) ∧ w = w' := by
  obtain ⟨⟨c, op, h1, h2⟩, _⟩ := h
  have e0 : w.cell? ⟨g, 0, none⟩ = some (.slice (some ⟨r, 0, none⟩) L.length c) := (h1.cell 0).trans rfl
  have d1 : decide (L.length ≤ j) = false := by simp; omega
  have hlc := (own_holdsS h2).2.1
  clear h1 h2
  go_enter Tryz.func102, Tryz.ntmps102
  go_wp2_with fail
  go_ret
  exact ⟨rfl, rfl⟩
end
end Go.Proofs.YtopbojifllnckaaGreatDoor
namespace Go.Proofs.YtopbojifllnckaaGreatDoor
open Go.RowKit
attribute [local irreducible] wpQuiet
theorem Holds.take {w : World} {B n : Nat} {A : Option Addr} {xs : List Int} (h : Holds w B A (nums xs)) : Holds w B A (nums (xs.take n)) := fun hn => by
  have hx : 0 < xs.length := by
    rcases Nat.eq_zero_or_pos xs.length with h0 | h0
    · rw [List.eq_nil_of_length_eq_zero h0] at hn; simp [nums] at hn
    · exact h0
  obtain ⟨ad, h1, h2, h3⟩ := h (by rw [nums_length]; exact hx)
  refine ⟨ad, h1, h2, fun j u hu => h3 j u ?_⟩
  unfold nums at hu ⊢
  rw [List.map_take, List.getElem?_take] at hu
  split at hu
  · exact hu
  · cases hu
/-- A bool is given back. -/
def RBool (e : Ending) : Prop := ∃ b : Bool, e = .returned (.bool b)
section
variable {w : World} {B c : Nat} {A : Option Addr} {xs : List Int}
set_option maxRecDepth 100000 in
set_option maxHeartbeats 800000 in
theorem sgroup_any (h : Holds w B A (nums xs)) (hn : xs.length = 3) (hc : 3 ≤ c) :
    Calls Tryz.prog 289 #[.slice A 3 c] w fun e w' => RBool e ∧ w = w' := by
  obtain ⟨ad, rfl, hB, _⟩ := h (by rw [nums_length]; omega)
  have H := hid h
  have HN := hid hn
  clear h hn
  go_enter Tryz.func289, Tryz.ntmps289
  go_wp2_with fail
  go_loop [15] (fun v15 => ∃ k : Nat, k ≤ 3 ∧ v15 = .int .i64 k) (fun v15 => 3 - (intOf v15).toNat)
  case atStart => exact ⟨0, Nat.zero_le _, rfl⟩
  case round =>
    obtain ⟨k, hk, rfl⟩ := hrel
    by_cases hk3 : k < 3
    · have hkx : k < xs.length := by rw [HN.out]; exact hk3
      obtain ⟨ad', e1, _, e2⟩ := ints_at H.out hkx
      cases e1
      have hlen : (xs.take k).length = k := by rw [List.length_take]; omega
      have hcon := fun x => hid (contains_any (c := c) x (Holds.take (n := k) H.out) hlen (by omega))
      have h0k : (0 : Int) ≤ (k : Int) := by omega
      have hkc : (k : Int) ≤ (c : Int) := by omega
      clear hlen
      generalize xs[k] = y at e2
      have hcy := hcon y
      clear hcon
      by_cases hy0 : y < 0
      · have d0 : decide (y < 0) = true := by simp; omega
        go_wp2_with fail
        go_ret
        exact ⟨⟨false, rfl⟩, rfl⟩
      have d0 : decide (y < 0) = false := by simp; omega
      by_cases hy1 : 64 ≤ y
      · have d1 : decide (64 ≤ y) = true := by simp; omega
        go_wp2_with fail
        go_ret
        exact ⟨⟨false, rfl⟩, rfl⟩
      have d1 : decide (64 ≤ y) = false := by simp; omega
      go_wp2_with fail
      refine hcy.out.mono ?_
      rintro e w' ⟨b, rfl, rfl⟩
      cases b with
      | true =>
        go_wp2_with fail
        go_ret
        exact ⟨⟨false, rfl⟩, rfl⟩
      | false =>
        go_wp2_with fail
        go_round
        case rel => exact ⟨k + 1, by omega, by go_num⟩
        case measure => simp [intOf]; omega
    · obtain rfl : k = 3 := by omega
      go_wp2_with fail
      go_ret
      exact ⟨⟨true, rfl⟩, rfl⟩
set_option maxRecDepth 100000 in
set_option maxHeartbeats 800000 in
theorem smay_any (h : Holds w B A (nums xs)) (hn : xs.length = 3) (hc : 3 ≤ c) (hB : B ≤ w.heap.size) (i st ow ep ln : Int) :
    Calls Tryz.prog 223 #[.agg #[.int .i64 i, .int .i64 st, .int .i64 ow, .int .i64 ep, .int .i64 ln, .slice A 3 c]] w fun e w' => RBool e ∧ Below w.heap.size w w' := by
  have hc1 := hid (sgroup_any (h.keep fun k hk => Below.heap_alloc w (.cells #[.int .i64 i, .int .i64 st, .int .i64 ow, .int .i64 ep, .int .i64 ln, .slice A 3 c] 37) k (by omega)) hn hc)
  have hb := hid ((Below.refl w.heap.size w).alloc (Nat.le_refl _) (.cells #[.int .i64 i, .int .i64 st, .int .i64 ow, .int .i64 ep, .int .i64 ln, .slice A 3 c] 37))
  clear h hn
  by_cases h0 : 0 ≤ ow ∧ ow < 16 ∧ 1 ≤ ep ∧ 0 ≤ ln ∧ ln ≤ 65536
  · obtain ⟨q0, q1, q2, q3, q4⟩ := h0
    have d0 : decide (0 ≤ ow) = true := by simp; omega
    have d1 : decide (ow < 16) = true := by simp; omega
    have d2 : decide (1 ≤ ep) = true := by simp; omega
    have d3 : decide (0 ≤ ln) = true := by simp; omega
    have d4 : decide (ln ≤ 65536) = true := by simp; omega
    go_enter Tryz.func223, Tryz.ntmps223
    go_wp2_with fail
    refine hc1.out.mono ?_
    rintro e w' ⟨⟨b, rfl⟩, rfl⟩
    go_wp2_with fail
    go_ret
    exact ⟨⟨_, rfl⟩, hb.out⟩
  · have hh : ow < 0 ∨ (0 ≤ ow ∧ 16 ≤ ow) ∨ (0 ≤ ow ∧ ow < 16 ∧ ep < 1) ∨ (0 ≤ ow ∧ ow < 16 ∧ 1 ≤ ep ∧ ln < 0) ∨ (0 ≤ ow ∧ ow < 16 ∧ 1 ≤ ep ∧ 0 ≤ ln ∧ 65536 < ln) := by omega
    clear h0
    rcases hh with h | h | h | h | h
    all_goals
      first | have d0 : decide (0 ≤ ow) = true := by (simp; omega) | have d0 : decide (0 ≤ ow) = false := by (simp; omega) | skip
      first | have d1 : decide (ow < 16) = true := by (simp; omega) | have d1 : decide (ow < 16) = false := by (simp; omega) | skip
      first | have d2 : decide (1 ≤ ep) = true := by (simp; omega) | have d2 : decide (1 ≤ ep) = false := by (simp; omega) | skip
      first | have d3 : decide (0 ≤ ln) = true := by (simp; omega) | have d3 : decide (0 ≤ ln) = false := by (simp; omega) | skip
      first | have d4 : decide (ln ≤ 65536) = true := by (simp; omega) | have d4 : decide (ln ≤ 65536) = false := by (simp; omega) | skip
      clear h
      go_enter Tryz.func223, Tryz.ntmps223
      go_wp2_with fail
      go_ret
      exact ⟨⟨_, rfl⟩, hb.out⟩
end
end Go.Proofs.YtopbojifllnckaaGreatDoor
namespace Go.Proofs.YtopbojifllnckaaGreatDoor
open Go.RowKit
attribute [local irreducible] wpQuiet
/-- Three numbers in new memory. -/
def Own3 (w w' : World) (v : Value) : Prop := ∃ xs : List Int, w'.ownsRow w.heap.size 3 1 v 3 (nums xs)
theorem own_far {w : World} {base e size n : Nat} {v : Value} {xs : List Value} (h : w.ownsRow base e size v n xs) (b i : Nat) (hb : b < base) (u : Value) : (w.setCell ⟨b, i, none⟩ u).ownsRow base e size v n xs :=
  own_keep h fun k hk _ => Below.heap_setCell w _ _ k (by show k ≠ b; omega)
section
variable {S : Nat → Prop} {w w' : World} {g r : Nat} {L : List Str}
theorem AtS.below (h : AtS S w g L r) (hb : Below w.heap.size w w') : AtS S w' g L r := by
  obtain ⟨⟨c, op, h1, h2⟩, h3, h4, h5⟩ := h
  exact ⟨⟨c, op, h1.below hb h1.lt, own_keep h2 fun k _ hk => hb.block k hk⟩, h3, h4, fun s hs => ⟨(h5 s hs).1, (h5 s hs).2.keep fun hk => hb.block _ hk⟩⟩
theorem AtS.lt (h : AtS S w g L r) : r < w.heap.size := by
  obtain ⟨⟨c, op, h1, h2⟩, _⟩ := h
  rcases own_blk h2 with ⟨h3, _⟩ | ⟨r', cur, h3, _, h4, _⟩
  · cases h3
  · cases h3; exact h4.lt
theorem AtS.six (h : AtS S w g L r) {j : Nat} {s : Str} (hs : L[j]? = some s) : w.cell? ⟨r, j * 6, none⟩ = some (.int .i64 j) ∧ w.cell? ⟨r, j * 6 + 1, none⟩ = some (.int .i64 s.st) ∧ w.cell? ⟨r, j * 6 + 2, none⟩ = some (.int .i64 s.ow) ∧ w.cell? ⟨r, j * 6 + 3, none⟩ = some (.int .i64 s.ep) ∧
    w.cell? ⟨r, j * 6 + 4, none⟩ = some (.int .i64 s.ln) ∧ w.cell? ⟨r, j * 6 + 5, none⟩ = some (.slice (some ⟨s.g, 0, none⟩) 3 s.c) :=
  ⟨(h.cell (k := 0) hs (by omega)).trans rfl, (h.cell (k := 1) hs (by omega)).trans rfl, (h.cell (k := 2) hs (by omega)).trans rfl, (h.cell (k := 3) hs (by omega)).trans rfl, (h.cell (k := 4) hs (by omega)).trans rfl, (h.cell (k := 5) hs (by omega)).trans rfl⟩
theorem gzero (w : World) : Blk (w.alloc (.cells #[.int .i64 0, .int .i64 0, .int .i64 0, .int .i64 0, .int .i64 0, .slice none 0 0] 37)) w.heap.size 37 #[.int .i64 0, .int .i64 0, .int .i64 0, .int .i64 0, .int .i64 0, .slice none 0 0] := Blk.new w _ _
theorem agg6 {b : Nat} {x0 x1 x2 x3 x4 x5 : Value} (h : Blk w b 37 #[x0, x1, x2, x3, x4, x5]) : w.cell? ⟨b, 0, none⟩ = some x0 ∧ w.cell? ⟨b, 1, none⟩ = some x1 ∧ w.cell? ⟨b, 2, none⟩ = some x2 ∧ w.cell? ⟨b, 3, none⟩ = some x3 ∧ w.cell? ⟨b, 4, none⟩ = some x4 ∧ w.cell? ⟨b, 5, none⟩ = some x5 :=
  ⟨(h.cell 0).trans rfl, (h.cell 1).trans rfl, (h.cell 2).trans rfl, (h.cell 3).trans rfl, (h.cell 4).trans rfl, (h.cell 5).trans rfl⟩
theorem below_six {B b : Nat} (hb : B ≤ b) {x0 x1 x2 x3 x4 x5 : Value} (h : Below B w w') :
    Below B w ((((((w'.setCell ⟨b, 0, none⟩ x0).setCell ⟨b, 1, none⟩ x1).setCell ⟨b, 2, none⟩ x2).setCell ⟨b, 3, none⟩ x3).setCell ⟨b, 4, none⟩ x4).setCell ⟨b, 5, none⟩ x5) := by
  have hq : ∀ (W : World) (i : Nat) (v : Value), Below B w W → Below B w (W.setCell ⟨b, i, none⟩ v) := fun W i v h => h.setCell (p := ⟨b, i, none⟩) hb v
  exact hq _ _ _ (hq _ _ _ (hq _ _ _ (hq _ _ _ (hq _ _ _ (hq _ _ _ h)))))
set_option maxRecDepth 100000 in
set_option maxHeartbeats 800000 in
theorem sGet_ok (h : AtS S w g L r) (j : Nat) (s : Str) (hs : L[j]? = some s) : Calls Tryz.prog 44 #[.pointer (some ⟨g, 0, none⟩), .int .i64 j] w fun e w' => ∃ v, e = .returned (.tuple #[.agg #[.int .i64 j, .int .i64 s.st, .int .i64 s.ow, .int .i64 s.ep, .int .i64 s.ln, v], .bool true]) ∧ Own3 w w' v ∧ Below w.heap.size w w' := by
  have hj : j < L.length := (List.getElem?_eq_some_iff.1 hs).1
  have hrl := h.lt
  have hb0 := (Below.refl w.heap.size w).alloc (Nat.le_refl _) (.cells #[.int .i64 0, .int .i64 0, .int .i64 0, .int .i64 0, .int .i64 0, .slice none 0 0] 37)
  have h0 := h.below hb0
  have hz := gzero w
  have hsz : (w.alloc (.cells #[.int .i64 0, .int .i64 0, .int .i64 0, .int .i64 0, .int .i64 0, .slice none 0 0] 37)).heap.size = w.heap.size + 1 := by simp
  obtain ⟨W, hW⟩ : ∃ W, W = w.alloc (.cells #[.int .i64 0, .int .i64 0, .int .i64 0, .int .i64 0, .int .i64 0, .slice none 0 0] 37) := ⟨_, rfl⟩
  rw [← hW] at hb0 h0 hz hsz
  have hc := hid (sAt_ok h0 j hj)
  obtain ⟨a0, a1, a2, a3, a4, a5⟩ := h0.six hs
  obtain ⟨xs, hxs⟩ := (h0.srv s (List.mem_of_getElem? hs)).2
  rw [hW] at hc
  have HW := hid hW
  have HZ := hid hz
  have HS := hid hsz
  have HB := hid hb0
  have HX := hid hxs
  clear h h0 hz hsz hb0 hxs hW
  go_enter Tryz.func44, Tryz.ntmps44
  go_wp2_with fail
  refine hc.out.mono ?_
  rintro e w1 ⟨rfl, he⟩
  rw [← HW.out] at he
  subst he
  go_wp2_with fail
  have hX := (Blk.new W 37 #[.int .i64 (j : Int), .int .i64 s.st, .int .i64 s.ow, .int .i64 s.ep, .int .i64 s.ln, .slice (some ⟨s.g, 0, none⟩) 3 s.c])
  have hlen : xs.length = 3 := by have := HX.out.1; rw [nums_length] at this; omega
  have hh := (own_holdsS HX.out).1.keep fun k hk => Below.heap_alloc W (.cells #[.int .i64 (j : Int), .int .i64 s.st, .int .i64 s.ow, .int .i64 s.ep, .int .i64 s.ln, .slice (some ⟨s.g, 0, none⟩) 3 s.c] 37) k hk
  refine (clone_any (c := s.c) hh hlen (by simp) (by omega)).mono ?_
  rintro e w2 ⟨v, rfl, h1, h2⟩
  unfold NewInts at h1
  rw [hlen] at h1
  obtain ⟨A', c', rfl⟩ := own_form h1
  have hX2 := hX.below h2 (by simp)
  have hZ2 := ((HZ.out.alloc _).below h2 (by have := HZ.out.lt; simp; omega))
  obtain ⟨x0, x1, x2, x3, x4, x5⟩ := agg6 hX2
  obtain ⟨z0, z1, z2, z3, z4, z5⟩ := agg6 hZ2
  have fx := hX2.frozen 5
  have f0 := hZ2.frozen 0; have f1 := hZ2.frozen 1; have f2 := hZ2.frozen 2; have f3 := hZ2.frozen 3; have f4 := hZ2.frozen 4; have f5 := hZ2.frozen 5
  have hne : W.heap.size ≠ w.heap.size := by have := HS.out; omega
  have hne2 : w.heap.size ≠ W.heap.size := Ne.symm hne
  have HL := hid hlen
  have H1 := hid h1
  have H2 := hid h2
  clear h1 h2 hX hX2 hZ2 hh hlen
  go_wp2_with fail
  refine bodyPost_ret (v := .tuple #[.agg #[.int .i64 j, .int .i64 s.st, .int .i64 s.ow, .int .i64 s.ep, .int .i64 s.ln, .slice A' 3 c'], .bool true]) (by simp [results, Tryz.results44, go_sem, z0, z1, z2, z3, z4, z5]) rfl ⟨_, rfl, ⟨xs, ?_⟩, ?_⟩
  · have hs1 := HS.out
    have hq : ∀ (V : World) (b i : Nat) (u : Value), b < W.heap.size + 1 → V.ownsRow (W.heap.size + 1) 3 1 (.slice A' 3 c') 3 (nums xs) → (V.setCell ⟨b, i, none⟩ u).ownsRow (W.heap.size + 1) 3 1 (.slice A' 3 c') 3 (nums xs) := fun V b i u hb h => own_far h b i hb u
    have h := H1.out
    simp only [World.alloc, Array.size_push] at h
    exact own_lower (hq _ _ _ _ (by omega) (hq _ _ _ _ (by omega) (hq _ _ _ _ (by omega) (hq _ _ _ _ (by omega) (hq _ _ _ _ (by omega) (hq _ _ _ _ (by omega) (hq _ _ _ _ (by omega) h))))))) (by omega)
  · have hs1 := HS.out
    have h2 := (((HB.out.alloc (by omega) _).trans (H2.out.mono (by simp; omega))).setCell (p := ⟨W.heap.size, 5, none⟩) (by show w.heap.size ≤ W.heap.size; omega) (.slice A' 3 c'))
    exact below_six (Nat.le_refl _) h2
set_option maxRecDepth 100000 in
set_option maxHeartbeats 800000 in
theorem sGet_none (h : Smp S w g L) (id : Int) (hi : id < 0 ∨ (L.length : Int) ≤ id) : Calls Tryz.prog 44 #[.pointer (some ⟨g, 0, none⟩), .int .i64 id] w fun e w' => e = .returned (.tuple #[.agg #[.int .i64 0, .int .i64 0, .int .i64 0, .int .i64 0, .int .i64 0, .slice none 0 0], .bool false]) ∧ Below w.heap.size w w' := by
  have hb0 := (Below.refl w.heap.size w).alloc (Nat.le_refl _) (.cells #[.int .i64 0, .int .i64 0, .int .i64 0, .int .i64 0, .int .i64 0, .slice none 0 0] 37)
  have hz := gzero w
  have hc := hid (sAt_none (h.keep fun k _ hk => hb0.block k hk) id hi)
  obtain ⟨z0, z1, z2, z3, z4, z5⟩ := agg6 hz
  have HB := hid hb0
  clear hb0 hz h hi
  go_enter Tryz.func44, Tryz.ntmps44
  go_wp2_with fail
  refine hc.out.mono ?_
  rintro e w1 ⟨rfl, he⟩
  subst he
  go_wp2_with fail
  refine bodyPost_ret (v := .tuple #[.agg #[.int .i64 0, .int .i64 0, .int .i64 0, .int .i64 0, .int .i64 0, .slice none 0 0], .bool false]) (by simp [results, Tryz.results44, go_sem]) rfl ⟨rfl, ?_⟩
  exact HB.out
end
end Go.Proofs.YtopbojifllnckaaGreatDoor
namespace Go.Proofs.YtopbojifllnckaaGreatDoor
open Go.RowKit
attribute [local irreducible] wpQuiet
/-- How a call of a map of stripes ends. -/
def SEnd (S : Nat → Prop) (w : World) (g : Nat) (L' : List Str) (w' : World) : Prop := Smp S w' g L' ∧ Only S w w' ∧ w'.heap.size = w.heap.size
/-- What Commit does. -/
def comL (L : List Str) (id ow : Int) : List Str := if 0 ≤ id then (match L[id.toNat]? with
  | some s => if s.st = 1 ∧ s.ow = ow then L.set id.toNat { s with st := 2 } else L
  | none => L) else L
def comE (L : List Str) (id ow : Int) : Nat := if 0 ≤ id then (match L[id.toNat]? with
  | some s => if s.st = 1 ∧ s.ow = ow then 0 else 16
  | none => 7) else 7
def freL (L : List Str) (id : Int) : List Str := if 0 ≤ id then (match L[id.toNat]? with
  | some s => if s.st = 1 ∨ s.st = 2 then L.set id.toNat { s with st := 3 } else L
  | none => L) else L
def freE (L : List Str) (id : Int) : Nat := if 0 ≤ id then (match L[id.toNat]? with
  | some s => if s.st = 1 ∨ s.st = 2 then 0 else 16
  | none => 7) else 7
theorem id_cases (L : List Str) (id : Int) : (id < 0 ∨ (L.length : Int) ≤ id) ∨ ∃ (j : Nat) (s : Str), id = j ∧ L[j]? = some s := by
  by_cases h : id < 0 ∨ (L.length : Int) ≤ id
  · exact .inl h
  · have hj : id.toNat < L.length := by omega
    exact .inr ⟨id.toNat, L[id.toNat], by omega, List.getElem?_eq_getElem hj⟩
theorem id_none {L : List Str} {id : Int} (h : id < 0 ∨ (L.length : Int) ≤ id) (ow : Int) : comL L id ow = L ∧ comE L id ow = 7 ∧ freL L id = L ∧ freE L id = 7 := by
  unfold comL comE freL freE
  by_cases h0 : 0 ≤ id
  · have : L[id.toNat]? = none := List.getElem?_eq_none (by omega)
    simp [h0, this]
  · simp [h0]
section
variable {S : Nat → Prop} {w w' : World} {g r : Nat} {L : List Str}
/-- A state is written. -/
theorem AtS.state (h : AtS S w g L r) {j : Nat} {s : Str} (hs : L[j]? = some s) (v : Int) : AtS S (w.setCell ⟨r, j * 6 + 1, none⟩ (.int .i64 v)) g (L.set j { s with st := v }) r := by
  obtain ⟨⟨c, op, h1, h2⟩, h3, h4, h5⟩ := h
  rcases own_blk h2 with ⟨h6, _⟩ | ⟨r', cur, h6, _, h7, h8, h9, h10, h11⟩
  · cases h6
  cases h6
  have hst := h2.stored (j * 6 + 1) (.int .i64 v)
  have hsl : (L.set j { s with st := v }).length = L.length := List.length_set
  refine ⟨⟨c, op, ?_, ?_⟩, h3, h4, fun t ht => ?_⟩
  · rw [hsl]
    exact h1.far (h1.ne_ h7 (by decide)) _
  · rw [hsl]
    have := rowS_set L 0 j s v hs
    rw [← this]
    exact hst.1
  · rcases List.mem_or_eq_of_mem_set ht with ht | rfl
    · obtain ⟨h12, xs, h13⟩ := h5 t ht
      exact ⟨h12, xs, own_at h13 fun ad e hlt => Below.heap_setCell w _ _ _ (by
        cases e
        rcases own_blk h13 with ⟨h14, _⟩ | ⟨q, cur', h14, _, h15, _⟩
        · cases h14
        · cases h14
          exact h15.ne_ h7 (by decide))⟩
    · obtain ⟨h12, xs, h13⟩ := h5 s (List.mem_of_getElem? hs)
      refine ⟨h12, xs, own_at h13 fun ad e hlt => Below.heap_setCell w _ _ _ (by
        cases e
        rcases own_blk h13 with ⟨h14, _⟩ | ⟨q, cur', h14, _, h15, _⟩
        · cases h14
        · cases h14
          exact h15.ne_ h7 (by decide))⟩
theorem AtS.frozen (h : AtS S w g L r) (i : Nat) : w.frozen? ⟨r, i, none⟩ = false := by
  obtain ⟨⟨c, op, h1, h2⟩, _⟩ := h
  exact h2.frozenAt i
set_option maxRecDepth 100000 in
set_option maxHeartbeats 800000 in
theorem sCommit_any (h : Smp S w g L) (id ow : Int) : Calls Tryz.prog 158 #[.pointer (some ⟨g, 0, none⟩), .int .i64 id, .int .i64 ow] w fun e w' => e = .returned (.int .i64 (comE L id ow)) ∧ SEnd S w g (comL L id ow) w' := by
  rcases id_cases L id with hi | ⟨j, s, rfl, hs⟩
  · obtain ⟨q1, q2, _⟩ := id_none hi ow
    have hc := hid (sAt_none h id hi)
    have H : Hid (SEnd S w g L w) := ⟨h, Only.refl _ _, rfl⟩
    rw [q1, q2]
    clear q1 q2 h hi
    go_enter Tryz.func158, Tryz.ntmps158
    go_wp2_with fail
    refine hc.out.mono ?_
    rintro e w1 ⟨rfl, rfl⟩
    go_wp2_with fail
    go_ret
    exact ⟨rfl, H.out⟩
  · have hj : j < L.length := (List.getElem?_eq_some_iff.1 hs).1
    obtain ⟨r, hr⟩ := h.at_ hj
    have hc := hid (sAt_ok hr j hj)
    obtain ⟨a0, a1, a2, _⟩ := hr.six hs
    have f1 := hr.frozen (j * 6 + 1)
    have H : Hid (SEnd S w g L w) := ⟨h, Only.refl _ _, rfl⟩
    have H2 : Hid (SEnd S w g (L.set j { s with st := 2 }) (w.setCell ⟨r, j * 6 + 1, none⟩ (.int .i64 2))) := ⟨(hr.state hs 2).smp, setS hr.sr _ _ (Only.refl _ _), by simp [World.setCell]⟩
    have q1 : comL L j ow = if s.st = 1 ∧ s.ow = ow then L.set j { s with st := 2 } else L := by unfold comL; simp [hs]
    have q2 : comE L j ow = if s.st = 1 ∧ s.ow = ow then 0 else 16 := by unfold comE; simp [hs]
    rw [q1, q2]
    clear q1 q2 h hr hs hj
    by_cases h1 : s.st = 1
    · by_cases h2 : s.ow = ow
      · rw [if_pos ⟨h1, h2⟩, if_pos ⟨h1, h2⟩]
        have d1 : (s.st != 1) = false := by simp [h1]
        have d2 : (s.ow != ow) = false := by simp [h2]
        clear h1 h2
        go_enter Tryz.func158, Tryz.ntmps158
        go_wp2_with fail
        refine hc.out.mono ?_
        rintro e w1 ⟨rfl, rfl⟩
        go_wp2_with fail
        go_ret
        exact ⟨rfl, H2.out⟩
      · rw [if_neg (fun x => h2 x.2), if_neg (fun x => h2 x.2)]
        have d1 : (s.st != 1) = false := by simp [h1]
        have d2 : (s.ow != ow) = true := by simp [h2]
        clear h1 h2
        go_enter Tryz.func158, Tryz.ntmps158
        go_wp2_with fail
        refine hc.out.mono ?_
        rintro e w1 ⟨rfl, rfl⟩
        go_wp2_with fail
        go_ret
        exact ⟨rfl, H.out⟩
    · rw [if_neg (fun x => h1 x.1), if_neg (fun x => h1 x.1)]
      have d1 : (s.st != 1) = true := by simp [h1]
      clear h1
      go_enter Tryz.func158, Tryz.ntmps158
      go_wp2_with fail
      refine hc.out.mono ?_
      rintro e w1 ⟨rfl, rfl⟩
      go_wp2_with fail
      go_ret
      exact ⟨rfl, H.out⟩
/-- How many are open is another number. -/
theorem Smp.open_ (h : Smp S w g L) (v : Int) : Smp S (w.setCell ⟨g, 1, none⟩ (.int .i64 v)) g L := by
  obtain ⟨A, c, op, h1, h2, h3, h4, h5⟩ := h
  refine ⟨A, c, v, h1.set_ 1 _, own_at h2 fun ad e hlt => Below.heap_setCell w _ _ _ ?_, h3, h4, fun s hs => ⟨(h5 s hs).1, (h5 s hs).2.keep fun _ => Below.heap_setCell w _ _ _ ?_⟩⟩
  · subst e
    rcases own_blk h2 with ⟨h6, _⟩ | ⟨r', cur, h6, _, h7, _⟩
    · cases h6
    · cases h6
      exact h7.ne_ h1 (by decide)
  · obtain ⟨xs, h8⟩ := (h5 s hs).2
    rcases own_blk h8 with ⟨h6, _⟩ | ⟨r', cur, h6, _, h7, _⟩
    · cases h6
    · cases h6
      exact h7.ne_ h1 (by decide)
theorem Smp.blk (h : Smp S w g L) : ∃ A c op, Blk w g 156 #[.slice A L.length c, .int .i64 op] ∧ S g := by
  obtain ⟨A, c, op, h1, _, h3, _⟩ := h
  exact ⟨A, c, op, h1, h3⟩
set_option maxRecDepth 100000 in
set_option maxHeartbeats 800000 in
theorem sFree_any (h : Smp S w g L) (id : Int) : Calls Tryz.prog 160 #[.pointer (some ⟨g, 0, none⟩), .int .i64 id] w fun e w' => e = .returned (.int .i64 (freE L id)) ∧ SEnd S w g (freL L id) w' := by
  rcases id_cases L id with hi | ⟨j, s, rfl, hs⟩
  · obtain ⟨_, _, q1, q2⟩ := id_none hi 0
    have hc := hid (sAt_none h id hi)
    have H : Hid (SEnd S w g L w) := ⟨h, Only.refl _ _, rfl⟩
    rw [q1, q2]
    clear q1 q2 h hi
    go_enter Tryz.func160, Tryz.ntmps160
    go_wp2_with fail
    refine hc.out.mono ?_
    rintro e w1 ⟨rfl, rfl⟩
    go_wp2_with fail
    go_ret
    exact ⟨rfl, H.out⟩
  · have hj : j < L.length := (List.getElem?_eq_some_iff.1 hs).1
    obtain ⟨r, hr⟩ := h.at_ hj
    have hc := hid (sAt_ok hr j hj)
    obtain ⟨a0, a1, a2, _⟩ := hr.six hs
    have f1 := hr.frozen (j * 6 + 1)
    have H : Hid (SEnd S w g L w) := ⟨h, Only.refl _ _, rfl⟩
    have hst := (hr.state hs 3).smp
    obtain ⟨A, c, op, hb, hsg⟩ := hst.blk
    have e1 : (w.setCell ⟨r, j * 6 + 1, none⟩ (.int .i64 3)).cell? ⟨g, 1, none⟩ = some (.int .i64 op) := (hb.cell 1).trans rfl
    have fg := hb.frozen 1
    have H2 : Hid (SEnd S w g (L.set j { s with st := 3 }) ((w.setCell ⟨r, j * 6 + 1, none⟩ (.int .i64 3)).setCell ⟨g, 1, none⟩ (.int .i64 (wrap64 (op - 1))))) := ⟨hst.open_ _, setS hsg _ _ (setS hr.sr _ _ (Only.refl _ _)), by simp [World.setCell]⟩
    have q1 : freL L j = if s.st = 1 ∨ s.st = 2 then L.set j { s with st := 3 } else L := by unfold freL; simp [hs]
    have q2 : freE L j = if s.st = 1 ∨ s.st = 2 then 0 else 16 := by unfold freE; simp [hs]
    rw [q1, q2]
    have hrg : g ≠ r := fun e => by
      obtain ⟨⟨c, op, h1, h2⟩, _⟩ := hr
      rcases own_blk h2 with ⟨h6, _⟩ | ⟨r', cur, h6, _, h7, _⟩
      · cases h6
      · cases h6
        exact (h7.ne_ h1 (by decide)) e.symm
    have hrg' : r ≠ g := Ne.symm hrg
    clear q1 q2 h hr hs hj hst hb
    by_cases h1 : s.st = 1
    · rw [if_pos (.inl h1), if_pos (.inl h1)]
      have d1 : (s.st == 1) = true := by simp [h1]
      clear h1
      go_enter Tryz.func160, Tryz.ntmps160
      go_wp2_with fail
      refine hc.out.mono ?_
      rintro e w1 ⟨rfl, rfl⟩
      go_wp2_with fail
      go_ret
      exact ⟨rfl, H2.out⟩
    · by_cases h2 : s.st = 2
      · rw [if_pos (.inr h2), if_pos (.inr h2)]
        have d1 : (s.st == 1) = false := by simp [h1]
        have d2 : (s.st == 2) = true := by simp [h2]
        clear h1 h2
        go_enter Tryz.func160, Tryz.ntmps160
        go_wp2_with fail
        refine hc.out.mono ?_
        rintro e w1 ⟨rfl, rfl⟩
        go_wp2_with fail
        go_ret
        exact ⟨rfl, H2.out⟩
      · have hn : ¬ (s.st = 1 ∨ s.st = 2) := fun x => x.elim h1 h2
        rw [if_neg hn, if_neg hn]
        have d1 : (s.st == 1) = false := by simp [h1]
        have d2 : (s.st == 2) = false := by simp [h2]
        clear h1 h2 hn
        go_enter Tryz.func160, Tryz.ntmps160
        go_wp2_with fail
        refine hc.out.mono ?_
        rintro e w1 ⟨rfl, rfl⟩
        go_wp2_with fail
        go_ret
        exact ⟨rfl, H.out⟩
end
end Go.Proofs.YtopbojifllnckaaGreatDoor
