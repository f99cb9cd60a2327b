/- Slices of numbers that are read: Index, Contains, Clone, members.list. members: what stays true of a group, whatever is asked of it. members: Swap, Done. -/
import Derived.Laws.CopyOwn
import Derived.Deep.RegionHeld3
import Derived.Test.YtopbojifllnckaaGreatDoorG22
namespace Go.Proofs.YtopbojifllnckaaGreatDoor
open Go.RowKit
attribute [local irreducible] wpQuiet
section
variable {w : World} {B n c : Nat} {A : Option Addr} {xs : List Int}
theorem ints_at (h : Holds w B A (nums xs)) {k : Nat} (hk : k < xs.length) : ∃ ad, A = some ad ∧ ad.block < B ∧ w.cell? (ad.add k) = some (.int .i64 xs[k]) := by
  obtain ⟨ad, h1, h2, h3⟩ := h (by rw [nums_length]; omega)
  exact ⟨ad, h1, h2, h3 k _ (nums_get hk)⟩
set_option maxHeartbeats 400000 in
theorem index_any (x : Int) (h : Holds w B A (nums xs)) (hn : xs.length = n) (hl : n ≤ 1000000) :
    Calls Tryz.prog 169 #[.slice A n c, .int .i64 x] w fun e w' => ∃ i : Int, e = .returned (.int .i64 i) ∧ -1 ≤ i ∧ i < n ∧ w = w' := by
  have H := hid h
  have HN := hid hn
  clear h hn
  go_enter Tryz.func169, Tryz.ntmps169
  go_wp2_with fail
  go_loop [8] (fun i => ∃ k : Nat, k ≤ n ∧ i = .int .i64 k) (fun i => n - (intOf i).toNat)
  case atStart => exact ⟨0, by omega, rfl⟩
  case round =>
    obtain ⟨k, hk, rfl⟩ := hrel
    by_cases hkn : k < n
    · obtain ⟨ad, rfl, _, hc1⟩ := ints_at H.out (k := k) (by rw [HN.out]; exact hkn)
      generalize xs[k]'(by rw [HN.out]; exact hkn) = y at hc1
      by_cases hxy : x = y
      · subst hxy
        go_wp2_with fail
        go_ret
        exact ⟨k, rfl, by omega, by omega, rfl⟩
      · go_wp2_with fail
        go_round
        case rel => exact ⟨k + 1, by omega, by go_num⟩
        case measure => simp [intOf]; omega
    · obtain rfl : k = n := by omega
      go_wp2_with fail
      go_ret
      exact ⟨-1, rfl, by omega, by omega, rfl⟩
theorem contains_any (x : Int) (h : Holds w B A (nums xs)) (hn : xs.length = n) (hl : n ≤ 1000000) :
    Calls Tryz.prog 120 #[.slice A n c, .int .i64 x] w fun e w' => ∃ b : Bool, e = .returned (.bool b) ∧ w = w' := by
  have hc := hid (index_any (c := c) x h hn hl)
  clear h hn
  go_enter Tryz.func120, Tryz.ntmps120
  go_wp2_with fail
  refine hc.out.mono ?_
  rintro e w' ⟨i, rfl, h1, h2, rfl⟩
  go_wp2_with fail
  go_ret
  exact ⟨_, rfl, rfl⟩
/-- A copy in new memory. -/
theorem clone_any (h : Holds w B A (nums xs)) (hn : xs.length = n) (hB : B ≤ w.heap.size) (hl : n ≤ 1000000) :
    Calls Tryz.prog 103 #[.slice A n c] w fun e w' => ∃ v, e = .returned v ∧ NewInts w w' v xs ∧ Below w.heap.size w w' := by
  have q := Lib.run_eql_slice_nil (P := Tryz.prog) w 26 3 A n c 0 0 Tryz.underlying26
  cases A with
  | none =>
    have hx : xs = [] := by
      rcases Nat.eq_zero_or_pos xs.length with h0 | h0
      · exact List.eq_nil_of_length_eq_zero h0
      · obtain ⟨ad, h1, _⟩ := h (by rw [nums_length]; exact h0)
        cases h1
    subst hx
    go_enter Tryz.func103, Tryz.ntmps103
    go_wp2_with fail
    go_ret
    exact ⟨_, rfl, World.ownsRow_nil _ _ _ _, Below.refl _ _⟩
  | some ad =>
    have ho : ((w.alloc (.cells #[] 3)).ownsRow w.heap.size 3 1 (.slice (some ⟨w.heap.size, 0, none⟩) 0 0) 0 []) := World.ownsRow_made w #[] 0 (Nat.le_refl _) (by decide) rfl
    have hh : Holds (w.alloc (.cells #[] 3)) B (some ad) (nums xs) := h.keep fun k hk => Below.heap_alloc w _ k (by omega)
    have hN : (nums xs).length = n := by rw [nums_length]; exact hn
    have h1 : ∀ u ∈ nums xs, u.oneCell' = true := fun u hu => by
      obtain ⟨y, _, rfl⟩ := List.mem_map.1 hu
      rfl
    have HO := hid ho
    have HH := hid hh
    have HN := hid hN
    have H1 := hid h1
    have HX := hid hn
    have hlen : Hid ((([] : List Value).length + (nums xs).length) * 8 ≤ 140737488355328) := by
      show _ ≤ _
      rw [hN, List.length_nil]
      omega
    clear ho hh hN h1 hn h
    go_enter Tryz.func103, Tryz.ntmps103
    go_wp2_with (at_builtin; refine wpList_app _ rfl (.tmp 5) (.tmp 6) 26 3 (.int .i64 0) 8 rfl Tryz.underlying26 info3 rfl (by decide) w.heap.size (.slice (some ⟨w.heap.size, 0, none⟩) 0 0) [] rfl HO.out B (some ad) c n (nums xs) rfl HN.out HH.out H1.out hlen.out (by simp) ?_; intro v' w' h1 h2 h3; have H3 := hid h1; have H4 := hid h2; clear h1 h2 h3)
    go_ret
    refine ⟨v', rfl, ?_, ((Below.refl _ _).alloc (Nat.le_refl _) _).trans (below_grown HO.out H4.out (by simp))⟩
    have := H3.out
    rw [List.nil_append, HN.out, ← HX.out] at this
    exact this
theorem size3 : (Tryz.prog.info? 3).map (·.size) = some 1 := by kernel_rfl
theorem run_make3 (w : World) : (Instr.makeSlice 26 (.int .i64 3) (.int .i64 3)).run Tryz.prog w = .ok (.slice (some ⟨w.heap.size, 0, none⟩) 3 3) (w.alloc (.cells #[.int .i64 0, .int .i64 0, .int .i64 0] 3)) := by
  obtain ⟨i0, hi, hzz⟩ := Option.map_eq_some_iff.1 info3
  simp only [Prod.mk.injEq] at hzz
  obtain ⟨hz0, hz1, hz2⟩ := hzz
  have := run_makeSlice (P := Tryz.prog) (w := w) 26 3 i0 (.int .i64 0) Tryz.underlying26 hi hz0 .i64 .i64 (3 : Int) (3 : Int) (by omega) (by omega) (by rw [hz1]; decide) (by rw [hz2]; decide) (by omega)
  have hc : madeCells (Value.int .i64 0).cells (3 * i0.size) = #[.int .i64 0, .int .i64 0, .int .i64 0] := by rw [hz1]; exact Array.ext' ((toList_madeCells_one _ _).trans rfl)
  rw [← hc]
  exact this
set_option maxRecDepth 100000 in
/-- Three servers, in new memory. -/
theorem list_three {g : Nat} {a b d : Int} (h : Blk w g 3 #[.int .i64 a, .int .i64 b, .int .i64 d]) :
    Calls Tryz.prog 80 #[.slice (some ⟨g, 0, none⟩) 3 3] w fun e w' => e = .returned (.slice (some ⟨w.heap.size, 0, none⟩) 3 3) ∧ Blk w' w.heap.size 3 #[.int .i64 a, .int .i64 b, .int .i64 d] ∧ Below w.heap.size w w' := by
  have e0 : w.cell? ⟨g, 0, none⟩ = some (.int .i64 a) := (h.cell 0).trans rfl
  have e1 : w.cell? ⟨g, 1, none⟩ = some (.int .i64 b) := (h.cell 1).trans rfl
  have e2 : w.cell? ⟨g, 2, none⟩ = some (.int .i64 d) := (h.cell 2).trans rfl
  have hlt := h.lt
  have hmk := run_make3 w
  have hb := Blk.new w 3 #[.int .i64 0, .int .i64 0, .int .i64 0]
  have hsrc : ∀ j v, ([.int .i64 a, .int .i64 b, .int .i64 d] : List Value)[j]? = some v → (w.alloc (.cells #[.int .i64 0, .int .i64 0, .int .i64 0] 3)).cell? ((⟨g, 0, none⟩ : Addr).add j) = some v := fun j v hj => by
    rw [add_plain, (h.alloc _).cell]
    rw [← hj]
    simp
  have h1 : ∀ v ∈ ([.int .i64 a, .int .i64 b, .int .i64 d] : List Value), v.oneCell' = true := fun v hv => by
    simp only [List.mem_cons, List.not_mem_nil, or_false] at hv
    rcases hv with rfl | rfl | rfl <;> rfl
  have hcp := run_copy_row (P := Tryz.prog) (w.alloc (.cells #[.int .i64 0, .int .i64 0, .int .i64 0] 3)) 26 26 3 3 w.heap.size 0 3 3 ⟨g, 0, none⟩ 3 3 _ 3 _ Tryz.underlying26 size3 hb rfl hsrc (Nat.le_refl _) h1
  obtain ⟨W, hW⟩ : ∃ W, W = (w.alloc (.cells #[.int .i64 0, .int .i64 0, .int .i64 0] 3)).setRow w.heap.size #[.int .i64 a, .int .i64 b, .int .i64 d] := ⟨_, rfl⟩
  have hcp2 : (Builtin.copy_ #[26, 26] 3 #[.slice (some ⟨w.heap.size, 0, none⟩) 3 3, .slice (some ⟨g, 0, none⟩) 3 3]).run Tryz.prog (w.alloc (.cells #[.int .i64 0, .int .i64 0, .int .i64 0] 3)) = .ok (.int .i64 3) W := by rw [hW]; exact hcp
  have hB : Hid (Blk W w.heap.size 3 #[.int .i64 a, .int .i64 b, .int .i64 d] ∧ Below w.heap.size w W) := by
    rw [hW]
    exact ⟨setRow_heap _ _ _ _ _ _ hb, below_setRow ((Below.refl _ _).alloc (Nat.le_refl _) _) (Nat.le_refl _) _⟩
  clear h hb hsrc h1 e0 e1 e2 hcp hW
  go_enter Tryz.func80, Tryz.ntmps80
  go_wp2_with fail
  go_ret
  exact ⟨rfl, hB.out⟩
end
end Go.Proofs.YtopbojifllnckaaGreatDoor
namespace Go.Proofs.YtopbojifllnckaaGreatDoor
open Go.RowKit
attribute [local irreducible] wpQuiet
/-- A small number (of a server). -/
def Sml (n : Int) : Prop := 0 ≤ n ∧ n < 64
/-- A group of three servers in blocks of S, in epoch ep. -/
def Grp (S : Nat → Prop) (w : World) (g : Nat) (ep : Int) : Prop :=
  ∃ (b1 b2 o m : Nat) (x0 x1 x2 y0 y1 hole gone : Int) (fil : Bool),
    Blk w g 153 #[.slice (some ⟨b1, 0, none⟩) 3 3, .slice (some ⟨b2, o, none⟩) m m, .int .i64 ep, .int .i64 hole, .bool fil, .int .i64 gone] ∧
    Blk w b1 3 #[.int .i64 x0, .int .i64 x1, .int .i64 x2] ∧ Blk w b2 3 #[.int .i64 y0, .int .i64 y1] ∧ o + m ≤ 2 ∧
    (Sml x0 ∧ Sml x1 ∧ Sml x2 ∧ Sml y0 ∧ Sml y1) ∧ (-1 ≤ hole ∧ hole < 3) ∧ I64 ep ∧ S g ∧ S b1 ∧ S b2
section
variable {S : Nat → Prop} {w w' : World} {g : Nat} {ep : Int}
theorem Grp.keep (h : Grp S w g ep) (hk : ∀ k, S k → k < w.heap.size → w'.heap[k]? = w.heap[k]?) : Grp S w' g ep := by
  obtain ⟨b1, b2, o, m, x0, x1, x2, y0, y1, hole, gone, fil, h1, h2, h3, h4, h5, h6, h7, h8, h9, h10⟩ := h
  exact ⟨b1, b2, o, m, x0, x1, x2, y0, y1, hole, gone, fil, (hk _ h8 h1.lt).trans h1, (hk _ h9 h2.lt).trans h2, (hk _ h10 h3.lt).trans h3, h4, h5, h6, h7, h8, h9, h10⟩
theorem gEpoch_any (h : Grp S w g ep) : Calls Tryz.prog 43 #[.pointer (some ⟨g, 0, none⟩)] w fun e w' => e = .returned (.int .i64 ep) ∧ w = w' := by
  have e2 : w.cell? ⟨g, 2, none⟩ = some (.int .i64 ep) := by
    obtain ⟨b1, b2, o, m, x0, x1, x2, y0, y1, hole, gone, fil, h1, _⟩ := h
    exact (h1.cell 2).trans rfl
  clear h
  go_enter Tryz.func43, Tryz.ntmps43
  go_wp2_with fail
  go_ret
  exact ⟨rfl, rfl⟩
/-- A slice of three numbers in new memory. -/
def Three (w w' : World) (v : Value) : Prop := ∃ (a b d : Int), Sml a ∧ Sml b ∧ Sml d ∧ v = .slice (some ⟨w.heap.size, 0, none⟩) 3 3 ∧ Blk w' w.heap.size 3 #[.int .i64 a, .int .i64 b, .int .i64 d]
theorem gServers_any (h : Grp S w g ep) : Calls Tryz.prog 157 #[.pointer (some ⟨g, 0, none⟩)] w fun e w' => ∃ v, e = .returned v ∧ Three w w' v ∧ Below w.heap.size w w' := by
  obtain ⟨b1, b2, o, m, x0, x1, x2, y0, y1, hole, gone, fil, h1, h2, _, _, h5, _⟩ := h
  have e0 : w.cell? ⟨g, 0, none⟩ = some (.slice (some ⟨b1, 0, none⟩) 3 3) := (h1.cell 0).trans rfl
  have hc := hid (list_three h2)
  have H5 := hid h5
  clear h1 h2 h5
  go_enter Tryz.func157, Tryz.ntmps157
  go_wp2_with fail
  refine hc.out.mono ?_
  rintro e w' ⟨rfl, h1, h2⟩
  have H1 := hid h1
  have H2 := hid h2
  clear h1 h2
  go_wp2_with fail
  go_ret
  exact ⟨_, rfl, ⟨x0, x1, x2, H5.out.1, H5.out.2.1, H5.out.2.2.1, rfl, H1.out⟩, H2.out⟩
/-- How a call of a group ends. -/
def GEnd (S : Nat → Prop) (w : World) (g : Nat) (w' : World) : Prop := (∃ ep, Grp S w' g ep) ∧ Only S w w' ∧ w'.heap.size = w.heap.size
theorem wrap64_in (x : Int) : I64 (wrap64 x) := by unfold I64 wrap64; omega
theorem setS {w w' : World} {g : Nat} (hg : S g) (i : Nat) (v : Value) (h : Only S w w') : Only S w (w'.setCell ⟨g, i, none⟩ v) := h.setCell (p := ⟨g, i, none⟩) (.inl hg) v
set_option maxRecDepth 100000 in
set_option maxHeartbeats 800000 in
theorem gFail_any (h : Grp S w g ep) (a b : Int) : Calls Tryz.prog 165 #[.pointer (some ⟨g, 0, none⟩), .int .i64 a, .int .i64 b] w fun e w' => ∃ r : Nat, e = .returned (.int .i64 r) ∧ r < 17 ∧ GEnd S w g w' := by
  have H := hid h
  obtain ⟨b1, b2, o, m, x0, x1, x2, y0, y1, hole, gone, fil, h1, h2, h3, h4, h5, h6, h7, h8, h9, h10⟩ := h
  have e0 : w.cell? ⟨g, 0, none⟩ = some (.slice (some ⟨b1, 0, none⟩) 3 3) := (h1.cell 0).trans rfl
  have e2 : w.cell? ⟨g, 2, none⟩ = some (.int .i64 ep) := (h1.cell 2).trans rfl
  have e3 : w.cell? ⟨g, 3, none⟩ = some (.int .i64 hole) := (h1.cell 3).trans rfl
  have e4 : w.cell? ⟨g, 4, none⟩ = some (.bool fil) := (h1.cell 4).trans rfl
  have e5 : w.cell? ⟨g, 5, none⟩ = some (.int .i64 gone) := (h1.cell 5).trans rfl
  have f2 := h1.frozen 2
  have f3 := h1.frozen 3
  have f4 := h1.frozen 4
  have f5 := h1.frozen 5
  have hh : Holds w (b1 + 1) (some ⟨b1, 0, none⟩) (nums [x0, x1, x2]) := by
    have := Holds.of_blk (B := b1 + 1) h2 0 3 (by omega)
    simpa [nums] using this
  have hc := hid (index_any (c := 3) a hh (n := 3) rfl (by omega))
  have HA := hid (And.intro h1 (And.intro h2 (And.intro h3 (And.intro h4 (And.intro h5 (And.intro h8 (And.intro h9 h10)))))))
  clear h1 h2 h3 h4 h5 h6 h7 h8 h9 h10 hh
  have hsame : Hid (GEnd S w g w) := ⟨⟨_, H.out⟩, Only.refl _ _, rfl⟩
  go_enter Tryz.func165, Tryz.ntmps165
  go_wp2_with fail
  refine hc.out.mono ?_
  rintro e w' ⟨i, rfl, hi1, hi2, rfl⟩
  by_cases hi : i < 0
  · go_wp2_with fail
    go_ret
    exact ⟨7, rfl, by omega, hsame.out⟩
  by_cases hho : hole = -1
  · have d0 : (hole != -1) = false := by simp [hho]
    have d1 : (hole == -1) = true := by simp [hho]
    have HO := hid hho
    clear hho
    by_cases hb : b = ep
    · have d2 : (b != ep) = false := by simp [hb]
      have d3 : (b == ep) = true := by simp [hb]
      have HE := hid hb
      clear hb
      go_wp2_with fail
      go_ret
      obtain ⟨h1, h2, h3, h4, h5, h8, h9, h10⟩ := HA.out
      have n1 : b1 ≠ g := h2.ne_ h1 (by decide)
      have n2 : b2 ≠ g := h3.ne_ h1 (by decide)
      refine ⟨0, rfl, by omega, ⟨wrap64 (ep + 1), b1, b2, o, m, x0, x1, x2, y0, y1, i, a, false, ?_, ?_, ?_, h4, h5, ⟨by omega, by omega⟩, wrap64_in _, h8, h9, h10⟩, ?_, by simp [World.setCell]⟩
      · exact (((h1.set_ 3 _).set_ 5 _).set_ 4 _).set_ 2 _
      · exact (((h2.far n1 _).far n1 _).far n1 _).far n1 _
      · exact (((h3.far n2 _).far n2 _).far n2 _).far n2 _
      · exact setS h8 _ _ (setS h8 _ _ (setS h8 _ _ (setS h8 _ _ (Only.refl _ _))))
    · have d2 : (b != ep) = true := by simp [hb]
      have d3 : (b == ep) = false := by simp [hb]
      clear hb
      go_wp2_with fail
      go_ret
      exact ⟨10, rfl, by omega, hsame.out⟩
  · have d0 : (hole != -1) = true := by simp [hho]
    have d1 : (hole == -1) = false := by simp [hho]
    clear hho
    go_wp2_with fail
    go_ret
    exact ⟨9, rfl, by omega, hsame.out⟩
end
end Go.Proofs.YtopbojifllnckaaGreatDoor
namespace Go.Proofs.YtopbojifllnckaaGreatDoor
open Go.RowKit
attribute [local irreducible] wpQuiet
theorem keep3 {W : World} {b1 g hj i : Nat} {y z v : Value} (h : W.cell? ⟨g, i, none⟩ = some v) (hne : b1 ≠ g) (hi : i ≠ 4) : ((W.drew.setCell ⟨b1, hj, none⟩ y).setCell ⟨g, 4, none⟩ z).cell? ⟨g, i, none⟩ = some v := by
  rw [World.cell?_setCell_other (W.drew.setCell ⟨b1, hj, none⟩ y) ⟨g, 4, none⟩ ⟨g, i, none⟩ z (fun e => hi (by cases e; rfl)), World.cell?_setCell_far _ _ _ _ hne]
  exact h
section
variable {S : Nat → Prop} {w w' : World} {g : Nat} {ep : Int}
set_option maxRecDepth 100000 in
set_option maxHeartbeats 800000 in
theorem gDone_any (h : Grp S w g ep) (b : Int) : Calls Tryz.prog 170 #[.pointer (some ⟨g, 0, none⟩), .int .i64 b] w fun e w' => ∃ r : Nat, e = .returned (.int .i64 r) ∧ r < 17 ∧ GEnd S w g w' := by
  have H := hid h
  obtain ⟨b1, b2, o, m, x0, x1, x2, y0, y1, hole, gone, fil, h1, h2, h3, h4, h5, h6, h7, h8, h9, h10⟩ := h
  have e2 : w.cell? ⟨g, 2, none⟩ = some (.int .i64 ep) := (h1.cell 2).trans rfl
  have e3 : w.cell? ⟨g, 3, none⟩ = some (.int .i64 hole) := (h1.cell 3).trans rfl
  have e4 : w.cell? ⟨g, 4, none⟩ = some (.bool fil) := (h1.cell 4).trans rfl
  have e5 : w.cell? ⟨g, 5, none⟩ = some (.int .i64 gone) := (h1.cell 5).trans rfl
  have f2 := h1.frozen 2
  have f3 := h1.frozen 3
  have f4 := h1.frozen 4
  have f5 := h1.frozen 5
  have HA := hid (And.intro h1 (And.intro h2 (And.intro h3 (And.intro h4 (And.intro h5 (And.intro h8 (And.intro h9 h10)))))))
  clear h1 h2 h3 h4 h5 h6 h7 h8 h9 h10
  have hsame : Hid (GEnd S w g w) := ⟨⟨_, H.out⟩, Only.refl _ _, rfl⟩
  by_cases hb : b = ep
  · have d2 : (b != ep) = false := by simp [hb]
    have d3 : (b == ep) = true := by simp [hb]
    have HE := hid hb
    clear hb
    cases fil with
    | false =>
      go_enter Tryz.func170, Tryz.ntmps170
      go_wp2_with fail
      go_ret
      exact ⟨16, rfl, by omega, hsame.out⟩
    | true =>
      go_enter Tryz.func170, Tryz.ntmps170
      go_wp2_with fail
      go_ret
      obtain ⟨h1, h2, h3, h4, h5, h8, h9, h10⟩ := HA.out
      have n1 : b1 ≠ g := h2.ne_ h1 (by decide)
      have n2 : b2 ≠ g := h3.ne_ h1 (by decide)
      refine ⟨0, rfl, by omega, ⟨wrap64 (ep + 1), b1, b2, o, m, x0, x1, x2, y0, y1, -1, -1, false, ?_, ?_, ?_, h4, h5, ⟨by omega, by omega⟩, wrap64_in _, h8, h9, h10⟩, ?_, by simp [World.setCell]⟩
      · exact (((h1.set_ 3 _).set_ 5 _).set_ 4 _).set_ 2 _
      · exact (((h2.far n1 _).far n1 _).far n1 _).far n1 _
      · exact (((h3.far n2 _).far n2 _).far n2 _).far n2 _
      · exact setS h8 _ _ (setS h8 _ _ (setS h8 _ _ (setS h8 _ _ (Only.refl _ _))))
  · have d2 : (b != ep) = true := by simp [hb]
    have d3 : (b == ep) = false := by simp [hb]
    clear hb
    go_enter Tryz.func170, Tryz.ntmps170
    go_wp2_with fail
    go_ret
    exact ⟨10, rfl, by omega, hsame.out⟩
theorem swap_end {W : World} {b1 b2 o m hj : Nat} {x0 x1 x2 y0 y1 y gone : Int} (hj3 : hj < 3) (h5 : Sml x0 ∧ Sml x1 ∧ Sml x2 ∧ Sml y0 ∧ Sml y1) (h8 : S g) (h9 : S b1) (h10 : S b2) (hy : Sml y) (n1 : b1 ≠ g) (n2 : b2 ≠ g) (hom : o + m ≤ 2)
    (hB : Blk W g 153 #[.slice (some ⟨b1, 0, none⟩) 3 3, .slice (some ⟨b2, o, none⟩) m m, .int .i64 ep, .int .i64 hj, .bool false, .int .i64 gone]) (hB1 : Blk W b1 3 #[.int .i64 x0, .int .i64 x1, .int .i64 x2]) (hB2 : Blk W b2 3 #[.int .i64 y0, .int .i64 y1])
    (hO : Only S w W) (hZ : W.heap.size = w.heap.size) {e : Ending} (he : e = .returned (.tuple #[.int .i64 y, .int .i64 0])) :
    ∃ (r : Nat) (x : Int), e = .returned (.tuple #[.int .i64 x, .int .i64 r]) ∧ r < 17 ∧ Sml x ∧ GEnd S w g ((((W.setCell ⟨b1, hj, none⟩ (.int .i64 y)).setCell ⟨g, 4, none⟩ (.bool true)).setCell ⟨g, 2, none⟩ (.int .i64 (wrap64 (ep + 1)))).drew) := by
  have n3 : b2 ≠ b1 := fun e => by
    subst e
    unfold Blk at hB1 hB2
    rw [hB1] at hB2
    injection hB2 with h
    injection h with h
    have := congrArg Array.size h
    simp at this
  refine ⟨0, y, he, by omega, hy, ⟨wrap64 (ep + 1), b1, b2, o, m, if hj = 0 then y else x0, if hj = 1 then y else x1, if hj = 2 then y else x2, y0, y1, hj, gone, true, ?_, ?_, ?_, hom, ?_, ⟨by omega, by omega⟩, wrap64_in _, h8, h9, h10⟩, ?_, by simp [World.setCell, hZ]⟩
  · exact ((hB.far (p := ⟨b1, hj, none⟩) (Ne.symm n1) _).set_ 4 _).set_ 2 _
  · have := ((hB1.set_ hj (.int .i64 y)).far (p := ⟨g, 4, none⟩) n1 (.bool true)).far (p := ⟨g, 2, none⟩) n1 (.int .i64 (wrap64 (ep + 1)))
    rcases (show hj = 0 ∨ hj = 1 ∨ hj = 2 by omega) with rfl | rfl | rfl <;> exact this
  · exact ((hB2.far (p := ⟨b1, hj, none⟩) n3 _).far (p := ⟨g, 4, none⟩) n2 _).far (p := ⟨g, 2, none⟩) n2 _
  · obtain ⟨q0, q1, q2, q3, q4⟩ := h5
    refine ⟨?_, ?_, ?_, q3, q4⟩ <;> split <;> assumption
  · exact (setS h8 _ _ (setS h8 _ _ (setS h9 _ _ hO))).drew
set_option maxRecDepth 100000 in
set_option maxHeartbeats 1600000 in
theorem gSwap_any (h : Grp S w g ep) (b : Int) : Calls Tryz.prog 166 #[.pointer (some ⟨g, 0, none⟩), .int .i64 b] w fun e w' => ∃ (r : Nat) (x : Int), e = .returned (.tuple #[.int .i64 x, .int .i64 r]) ∧ r < 17 ∧ Sml x ∧ GEnd S w g w' := by
  have H := hid h
  obtain ⟨b1, b2, o, m, x0, x1, x2, y0, y1, hole, gone, fil, h1, h2, h3, h4, h5, h6, h7, h8, h9, h10⟩ := h
  have e0 : w.cell? ⟨g, 0, none⟩ = some (.slice (some ⟨b1, 0, none⟩) 3 3) := (h1.cell 0).trans rfl
  have e1 : w.cell? ⟨g, 1, none⟩ = some (.slice (some ⟨b2, o, none⟩) m m) := (h1.cell 1).trans rfl
  have e2 : w.cell? ⟨g, 2, none⟩ = some (.int .i64 ep) := (h1.cell 2).trans rfl
  have e3 : w.cell? ⟨g, 3, none⟩ = some (.int .i64 hole) := (h1.cell 3).trans rfl
  have e4 : w.cell? ⟨g, 4, none⟩ = some (.bool fil) := (h1.cell 4).trans rfl
  have f1 := h1.frozen 1
  have f2 := h1.frozen 2
  have f4 := h1.frozen 4
  have hsame : Hid (GEnd S w g w) := ⟨⟨_, H.out⟩, Only.refl _ _, rfl⟩
  have sm0 : Sml 0 := ⟨by omega, by omega⟩
  by_cases hm : m = 0
  · subst hm
    clear h1 h2 h3 h5 h8 h9 h10
    go_enter Tryz.func166, Tryz.ntmps166
    go_wp2_with fail
    go_ret2
    exact ⟨7, 0, rfl, by omega, sm0, hsame.out⟩
  have dm : ((m : Int) == 0) = false := by simp; omega
  have dm' : (m == 0) = false := by simp; omega
  by_cases hb : b = ep
  · have d2 : (b != ep) = false := by simp [hb]
    have d3 : (b == ep) = true := by simp [hb]
    have HE := hid hb
    clear hb
    by_cases hho : hole = -1
    · have d0 : (hole == -1) = true := by simp [hho]
      clear h1 h2 h3 h5 h8 h9 h10 hho
      go_enter Tryz.func166, Tryz.ntmps166
      go_wp2_with fail
      go_ret2
      exact ⟨16, 0, rfl, by omega, sm0, hsame.out⟩
    have d0 : (hole == -1) = false := by simp [hho]
    cases fil with
    | true =>
      clear h1 h2 h3 h5 h8 h9 h10 hho
      go_enter Tryz.func166, Tryz.ntmps166
      go_wp2_with fail
      go_ret2
      exact ⟨16, 0, rfl, by omega, sm0, hsame.out⟩
    | false =>
      obtain ⟨hj, hhj⟩ : ∃ hj : Nat, hole = hj := ⟨hole.toNat, by omega⟩
      subst hhj
      have n1 : b1 ≠ g := h2.ne_ h1 (by decide)
      have n2 : b2 ≠ g := h3.ne_ h1 (by decide)
      have es : ∃ y, Sml y ∧ w.cell? ⟨b2, o, none⟩ = some (.int .i64 y) := by
        rcases (show o = 0 ∨ o = 1 by omega) with rfl | rfl
        · exact ⟨y0, h5.2.2.2.1, (h3.cell 0).trans rfl⟩
        · exact ⟨y1, h5.2.2.2.2, (h3.cell 1).trans rfl⟩
      obtain ⟨y, hy, ey⟩ := es
      have hx : ∃ u, w.cell? ⟨b1, hj, none⟩ = some u := ⟨_, by rw [h2.cell]; exact Array.getElem?_eq_getElem (by simp; omega)⟩
      obtain ⟨u, eu⟩ := hx
      have fu := h2.frozen hj
      have HA := hid (And.intro h1 (And.intro h2 (And.intro h3 (And.intro h4 (And.intro h5 (And.intro h8 (And.intro h9 (And.intro h10 hy))))))))
      have hj3 : hj < 3 := by omega
      have ho1 : o ≤ 1 := by omega
      have ne1 : b1 ≠ g := n1
      have ne2 : g ≠ b1 := Ne.symm n1
      have hmm : m = 1 ∨ (m = 2 ∧ o = 0) := by omega
      clear h1 h2 h3 h4 h5 h6 h7 h8 h9 h10 hho hy hm dm dm'
      rcases hmm with rfl | ⟨rfl, rfl⟩
      · go_enter Tryz.func166, Tryz.ntmps166
        go_wp2_with fail
        obtain ⟨W, hW⟩ : ∃ W, W = w.setCell ⟨g, 1, none⟩ (.slice (some ⟨b2, o, none⟩) 0 0) := ⟨_, rfl⟩
        have hB : Blk W g 153 #[.slice (some ⟨b1, 0, none⟩) 3 3, .slice (some ⟨b2, o, none⟩) 0 0, .int .i64 ep, .int .i64 hj, .bool false, .int .i64 gone] := by rw [hW]; exact HA.out.1.set_ 1 _
        have hB1 : Blk W b1 3 #[.int .i64 x0, .int .i64 x1, .int .i64 x2] := by rw [hW]; exact HA.out.2.1.far ne1 _
        have hB2 : Blk W b2 3 #[.int .i64 y0, .int .i64 y1] := by rw [hW]; exact HA.out.2.2.1.far n2 _
        have hO : Only S w W := by rw [hW]; exact setS HA.out.2.2.2.2.2.1 _ _ (Only.refl _ _)
        have hZ : W.heap.size = w.heap.size := by rw [hW]; simp [World.setCell]
        rw [← hW]
        clear hW e0 e1 e2 e3 e4 f1 f2 f4 eu fu ey
        have e0 : W.cell? ⟨g, 0, none⟩ = some (.slice (some ⟨b1, 0, none⟩) 3 3) := (hB.cell 0).trans rfl
        have e2 : W.cell? ⟨g, 2, none⟩ = some (.int .i64 ep) := (hB.cell 2).trans rfl
        have e3 : W.cell? ⟨g, 3, none⟩ = some (.int .i64 hj) := (hB.cell 3).trans rfl
        have e4 : W.cell? ⟨g, 4, none⟩ = some (.bool false) := (hB.cell 4).trans rfl
        have f2 := hB.frozen 2
        have f4 := hB.frozen 4
        have hx : ∃ u, W.cell? ⟨b1, hj, none⟩ = some u := ⟨_, by rw [hB1.cell]; exact Array.getElem?_eq_getElem (by simp; omega)⟩
        obtain ⟨u, eu⟩ := hx
        have fu := hB1.frozen hj
        have HB := hid (And.intro hB (And.intro hB1 (And.intro hB2 (And.intro hO hZ))))
        clear hB hB1 hB2 hO hZ
        have hj0 : (0 : Int) ≤ (hj : Int) := by omega
        have hj4 : (hj : Int) < 3 := by omega
        go_region_held3 (fun w' => w'.cell? ⟨g, 0, none⟩ = some (.slice (some ⟨b1, 0, none⟩) 3 3) ∧ w'.cell? ⟨g, 3, none⟩ = some (.int .i64 hj)) (first | (go_keep; done) | exact ⟨keep3 e0 ne1 (by decide), keep3 e3 ne1 (by decide)⟩) (fail)
        all_goals
          go_wp2_with fail
          go_ret2
          refine swap_end hj3 HA.out.2.2.2.2.1 HA.out.2.2.2.2.2.1 HA.out.2.2.2.2.2.2.1 HA.out.2.2.2.2.2.2.2.1 HA.out.2.2.2.2.2.2.2.2 ne1 n2 (by omega) HB.out.1 HB.out.2.1 HB.out.2.2.1 HB.out.2.2.2.1 HB.out.2.2.2.2 rfl
      · go_enter Tryz.func166, Tryz.ntmps166
        go_wp2_with fail
        obtain ⟨W, hW⟩ : ∃ W, W = w.setCell ⟨g, 1, none⟩ (.slice (some ⟨b2, 1, none⟩) 1 1) := ⟨_, rfl⟩
        have hB : Blk W g 153 #[.slice (some ⟨b1, 0, none⟩) 3 3, .slice (some ⟨b2, 1, none⟩) 1 1, .int .i64 ep, .int .i64 hj, .bool false, .int .i64 gone] := by rw [hW]; exact HA.out.1.set_ 1 _
        have hB1 : Blk W b1 3 #[.int .i64 x0, .int .i64 x1, .int .i64 x2] := by rw [hW]; exact HA.out.2.1.far ne1 _
        have hB2 : Blk W b2 3 #[.int .i64 y0, .int .i64 y1] := by rw [hW]; exact HA.out.2.2.1.far n2 _
        have hO : Only S w W := by rw [hW]; exact setS HA.out.2.2.2.2.2.1 _ _ (Only.refl _ _)
        have hZ : W.heap.size = w.heap.size := by rw [hW]; simp [World.setCell]
        rw [← hW]
        clear hW e0 e1 e2 e3 e4 f1 f2 f4 eu fu ey
        have e0 : W.cell? ⟨g, 0, none⟩ = some (.slice (some ⟨b1, 0, none⟩) 3 3) := (hB.cell 0).trans rfl
        have e2 : W.cell? ⟨g, 2, none⟩ = some (.int .i64 ep) := (hB.cell 2).trans rfl
        have e3 : W.cell? ⟨g, 3, none⟩ = some (.int .i64 hj) := (hB.cell 3).trans rfl
        have e4 : W.cell? ⟨g, 4, none⟩ = some (.bool false) := (hB.cell 4).trans rfl
        have f2 := hB.frozen 2
        have f4 := hB.frozen 4
        have hx : ∃ u, W.cell? ⟨b1, hj, none⟩ = some u := ⟨_, by rw [hB1.cell]; exact Array.getElem?_eq_getElem (by simp; omega)⟩
        obtain ⟨u, eu⟩ := hx
        have fu := hB1.frozen hj
        have HB := hid (And.intro hB (And.intro hB1 (And.intro hB2 (And.intro hO hZ))))
        clear hB hB1 hB2 hO hZ
        have hj0 : (0 : Int) ≤ (hj : Int) := by omega
        have hj4 : (hj : Int) < 3 := by omega
        go_region_held3 (fun w' => w'.cell? ⟨g, 0, none⟩ = some (.slice (some ⟨b1, 0, none⟩) 3 3) ∧ w'.cell? ⟨g, 3, none⟩ = some (.int .i64 hj)) (first | (go_keep; done) | exact ⟨keep3 e0 ne1 (by decide), keep3 e3 ne1 (by decide)⟩) (fail)
        all_goals
          go_wp2_with fail
          go_ret2
          refine swap_end hj3 HA.out.2.2.2.2.1 HA.out.2.2.2.2.2.1 HA.out.2.2.2.2.2.2.1 HA.out.2.2.2.2.2.2.2.1 HA.out.2.2.2.2.2.2.2.2 ne1 n2 (by omega) HB.out.1 HB.out.2.1 HB.out.2.2.1 HB.out.2.2.2.1 HB.out.2.2.2.2 rfl
  · have d2 : (b != ep) = true := by simp [hb]
    have d3 : (b == ep) = false := by simp [hb]
    clear h1 h2 h3 h5 h8 h9 h10 hb
    go_enter Tryz.func166, Tryz.ntmps166
    go_wp2_with fail
    go_ret2
    exact ⟨10, 0, rfl, by omega, sm0, hsame.out⟩
end
end Go.Proofs.YtopbojifllnckaaGreatDoor
