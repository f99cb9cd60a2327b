/- Where the fragments of a stripe stand: the program's row and the document's. -/
import Derived.Test.YtdobilcfjpmakaaGroup2
import Derived.Deep.OwnRows
namespace Go.Proofs.Ytdobilcfjpmakaa
open Go.RowKit
attribute [local irreducible] wpQuiet

def rowR (xs : List Int) (st : Nat) : List Int := (List.range xs.length).map fun i => xs.getD ((i + st) % xs.length) 0
theorem rowR_length (xs : List Int) (st : Nat) : (rowR xs st).length = xs.length := by simp [rowR]
theorem rowR_at (xs : List Int) (st j : Nat) (h : j < xs.length) : (rowR xs st).getD j 0 = xs.getD ((j + st) % xs.length) 0 := by
  simp [rowR, List.getD, h]

/-- Block g is a row of n numbers, of which the first k are those of ys. -/
def RowTo (w : World) (g n k : Nat) (ys : List Int) : Prop :=
  ∃ cs : Array Value, Blk w g 3 cs ∧ cs.size = n ∧ (∀ j, j < n → ∃ u : Int, cs[j]? = some (.int .i64 u)) ∧ ∀ j, j < k → cs[j]? = some (.int .i64 (ys.getD j 0))
section
variable {w : World} {g n k : Nat} {ys : List Int}
theorem RowTo.cell (h : RowTo w g n k ys) {j : Nat} (hj : j < n) : ∃ u : Int, w.cell? ⟨g, j, none⟩ = some (.int .i64 u) ∧ w.frozen? ⟨g, j, none⟩ = false := by
  obtain ⟨cs, hb, _, h1, _⟩ := h
  obtain ⟨u, hu⟩ := h1 j hj
  exact ⟨u, by rw [hb.cell, hu], hb.frozen j⟩
theorem RowTo.set_ (h : RowTo w g n k ys) (hk : k < n) (m : Nat) : RowTo ((w.setCell ⟨g, k, none⟩ (.int .i64 (ys.getD k 0))).drewN m) g n (k + 1) ys := by
  obtain ⟨cs, hb, hs, h1, h2⟩ := h
  refine ⟨_, (hb.set_ k (.int .i64 (ys.getD k 0))).drewN m, by simpa using hs, fun j hj => ?_, fun j hj => ?_⟩
  · rw [Array.getElem?_setIfInBounds]
    split
    · rw [if_pos (by omega)]; exact ⟨_, rfl⟩
    · exact h1 j hj
  · rw [Array.getElem?_setIfInBounds]
    split
    · rename_i e; subst e; rw [if_pos (by omega)]
    · exact h2 j (by omega)
theorem RowTo.ints (h : RowTo w g n n ys) (hn : ys.length = n) (B : Nat) (hg : g < B) : IntsAt w B (some ⟨g, 0, none⟩) ys := fun _ => by
  obtain ⟨cs, hb, _, _, h2⟩ := h
  exact ⟨_, rfl, hg, fun j hj => by rw [add_plain, hb.cell]; exact h2 j (by omega)⟩
theorem RowTo.new (w : World) (n : Nat) (ys : List Int) : RowTo (w.alloc (.cells (madeCells #[.int .i64 0] n) 3)) w.heap.size n 0 ys := by
  refine ⟨_, Blk.new w 3 _, by simp [madeCells], fun j hj => ⟨0, by simp [madeCells, hj, Nat.mod_one]⟩, fun j hj => absurd hj (by omega)⟩
theorem RowTo.below {w' : World} {B : Nat} (h : RowTo w g n k ys) (hb : Below B w w') (hg : g < B) : RowTo w' g n k ys := by
  obtain ⟨cs, h0, h1⟩ := h
  exact ⟨cs, h0.below hb hg, h1⟩
end
theorem below_drewN {B : Nat} {a w : World} (h : Below B a w) (n : Nat) : Below B a (w.drewN n) := ⟨h.os, h.tape, h.output, h.size, h.block⟩
theorem info3 : (Try.prog.info? 3).map (fun i => (i.zero, i.size, i.bytes)) = some (some (.int .i64 0), 1, 8) := by kernel_rfl
theorem grp_bound {xs : List Int} (h : grpB xs = true) : 2 ≤ xs.length ∧ xs.length ≤ 8 := by
  unfold grpB at h
  simp only [Bool.and_eq_true, decide_eq_true_eq] at h
  exact ⟨h.1, h.2.1⟩

set_option maxHeartbeats 1000000 in
theorem all_ok {A : Option Addr} {n c B : Nat} {xs : List Int} {st : Nat} {w : World} (h : Hid (IntsAt w B A xs)) (hB : B ≤ w.heap.size) (hn : xs.length = n) (hc : n ≤ c) (hl : c ≤ maxLen) (hg : grpB xs = true) (hst : st < 4096) :
    Calls Try.prog 8 #[.slice A n c, .int .i64 st] w fun e w' => ∃ A', e = .returned (.tuple #[.slice A' n n, .int .i64 0]) ∧ IntsAt w' w'.heap.size A' (rowR xs st) ∧ Below w.heap.size w w' := by
  obtain ⟨hn2, hn8⟩ := grp_bound hg
  rw [hn] at hn2 hn8
  have hmk : ∀ W : World, (Instr.makeSlice 22 (.int .i64 (n : Int)) (.int .i64 (n : Int))).run Try.prog W = .ok (.slice (some ⟨W.heap.size, 0, none⟩) n n) (W.alloc (.cells (madeCells #[.int .i64 0] n) 3)) := by
    intro W
    exact run_make_row' 22 3 (.int .i64 0) 8 Try.underlying22 info3 rfl .i64 .i64 n (by omega) (by omega) W
  have hcall := group_any (w := w) h hn hc hl
  rw [hg] at hcall
  have HC := hid hcall
  have HL := hid hn
  clear hg hcall hn
  go_enter Try.func8, Try.ntmps8
  go_wp2_with fail
  refine HC.out.mono ?_
  rintro e w' ⟨rfl, rfl⟩
  go_wp2_with fail
  go_loopw [24] (fun i wr => ∃ k : Nat, k ≤ n ∧ i = .int .i64 k ∧ RowTo wr w.heap.size n k (rowR xs st) ∧ Below w.heap.size w wr) (fun i _ => n - (intOf i).toNat)
  case atStart => exact ⟨0, by omega, rfl, RowTo.new w n _, (Below.refl _ _).alloc (Nat.le_refl _) _⟩
  case round =>
    obtain ⟨k, hk, rfl, hm, hb⟩ := hrel
    have HM := hid hm
    have HB := hid hb
    clear hm hb
    by_cases hkn : k < n
    · obtain ⟨u, hu, hf⟩ := HM.out.cell hkn
      obtain ⟨ad, rfl, hbl, hcc⟩ := (h.out.below (HB.out.mono hB)) (by have := HL.out; omega)
      obtain ⟨t, ht⟩ : ∃ t, t = (k + st) % n := ⟨_, rfl⟩
      have htn : t < n := by rw [ht]; exact Nat.mod_lt _ (by omega)
      have hc1 := hcc t (by have := HL.out; omega)
      have hset := HM.out.set_ hkn 0
      rw [rowR_at _ _ _ (by have := HL.out; omega), HL.out, ← ht] at hset
      obtain ⟨y, hy⟩ : ∃ y, y = xs.getD t 0 := ⟨_, rfl⟩
      rw [← hy] at hc1 hset
      have HS := hid hset
      have hcall := fun W => turned_any (A := some ad) (n := n) (c := c) (a := st) (b := k) (w := W) (by omega) hn8 (by omega) (by omega)
      rw [← ht] at hcall
      have HT := hid hcall
      have hz := HB.out.size
      clear hcall hy hcc ht hset
      go_wp2_with fail
      refine (HT.out _).mono ?_
      rintro e w' ⟨rfl, rfl⟩
      go_wp2_with fail
      go_roundw
      case rel => exact ⟨k + 1, by omega, by go_num, HS.out, HB.out.setCell (Nat.le_refl _) _⟩
      case measure => simp [intOf]; omega
    · obtain rfl : k = n := by omega
      go_wp2
      go_ret2
      exact ⟨_, rfl, HM.out.ints (by rw [rowR_length]; exact HL.out) _ (by have := HM.out; obtain ⟨cs, hb, _⟩ := this; exact hb.lt), HB.out⟩

theorem may_out {xs : List Int} {s : Int} (h : mayB xs s = false) (hg : grpB xs = true) : s < 0 ∨ 4096 ≤ s := by
  unfold mayB at h
  rw [hg, Bool.true_and, Bool.and_eq_false_iff] at h
  rcases h with h | h
  · exact .inl (by simpa using h)
  · exact .inr (by simpa using h)

set_option maxHeartbeats 400000 in
theorem all_bad {A : Option Addr} {n c B : Nat} {xs : List Int} {s : Int} {w : World} (h : Hid (IntsAt w B A xs)) (hn : xs.length = n) (hc : n ≤ c) (hl : c ≤ maxLen) (hm : mayB xs s = false) :
    Calls Try.prog 8 #[.slice A n c, .int .i64 s] w fun e w' => e = .returned (.tuple #[.slice none 0 0, .int .i64 1]) ∧ w = w' := by
  have hcall := group_any (w := w) h hn hc hl
  by_cases hg : grpB xs = true
  · have ho := may_out hm hg
    rw [hg] at hcall
    have HC := hid hcall
    clear hg hm hcall
    by_cases h0 : s < 0
    · go_enter Try.func8, Try.ntmps8
      go_wp2_with fail
      refine HC.out.mono ?_
      rintro e w' ⟨rfl, rfl⟩
      go_wp2_with fail
      go_ret2
      exact ⟨rfl, rfl⟩
    · have h4 : 4096 ≤ s := by omega
      clear ho
      go_enter Try.func8, Try.ntmps8
      go_wp2_with fail
      refine HC.out.mono ?_
      rintro e w' ⟨rfl, rfl⟩
      go_wp2_with fail
      go_ret2
      exact ⟨rfl, rfl⟩
  · rw [show grpB xs = false by simpa using hg] at hcall
    have HC := hid hcall
    clear hg hm hcall
    go_enter Try.func8, Try.ntmps8
    go_wp2_with fail
    refine HC.out.mono ?_
    rintro e w' ⟨rfl, rfl⟩
    go_wp2_with fail
    go_ret2
    exact ⟨rfl, rfl⟩

theorem refall_bad {A : Option Addr} {n c B : Nat} {xs : List Int} {s : Int} {w : World} (h : Hid (IntsAt w B A xs)) (hn : xs.length = n) (hc : n ≤ c) (hl : c ≤ maxLen) (hm : mayB xs s = false) :
    Calls Try.prog 9 #[.slice A n c, .int .i64 s] w fun e w' => e = .returned (.tuple #[.slice none 0 0, .int .i64 1]) ∧ ∃ m, w' = w.drewN m := by
  have hcall := may_any (w := w) (s := s) h hn hc hl
  rw [hm] at hcall
  have HC := hid hcall
  clear hm hcall
  go_enter Try.func9, Try.ntmps9
  go_wp2_with fail
  refine HC.out.mono ?_
  rintro e w' ⟨rfl, m, rfl⟩
  go_wp2_with fail
  go_ret2
  exact ⟨rfl, _, rfl⟩

def nums (l : List Int) : List Value := l.map (Value.int .i64)
theorem nums_length (l : List Int) : (nums l).length = l.length := by simp [nums]
theorem nums_snoc (l : List Int) (k : Nat) (hk : k < l.length) : nums (l.take (k + 1)) = nums (l.take k) ++ [Value.int .i64 (l.getD k 0)] := by
  rw [List.take_succ_eq_append_getElem hk]
  simp only [nums, List.map_append, List.map_cons, List.map_nil, List.getD, List.getElem?_eq_getElem hk, Option.getD_some]

set_option maxHeartbeats 1000000 in
theorem refall_ok {A : Option Addr} {n c B : Nat} {xs : List Int} {st : Nat} {w : World} (h : Hid (IntsAt w B A xs)) (hB : B ≤ w.heap.size) (hn : xs.length = n) (hc : n ≤ c) (hl : c ≤ maxLen) (hg : grpB xs = true) (hst : st < 4096) :
    Calls Try.prog 9 #[.slice A n c, .int .i64 st] w fun e w' => ∃ A' c', e = .returned (.tuple #[.slice A' n c', .int .i64 0]) ∧ IntsAt w' w'.heap.size A' (rowR xs st) ∧ Below w.heap.size w w' := by
  obtain ⟨hn2, hn8⟩ := grp_bound hg
  rw [hn] at hn2 hn8
  have hcall := may_any (w := w) (s := st) h hn hc hl
  rw [show mayB xs (st : Int) = true by unfold mayB; rw [hg]; simp; omega] at hcall
  have HC := hid hcall
  have HL := hid hn
  clear hg hcall hn
  go_enter Try.func9, Try.ntmps9
  go_wp2_with fail
  refine HC.out.mono ?_
  rintro e w' ⟨rfl, m, rfl⟩
  go_wp2_with fail
  go_loopw [6, 7] (fun v i wr => ∃ (k : Nat) (A' : Option Addr) (c' : Nat), k ≤ n ∧ i = .int .i64 k ∧ v = .slice A' k c' ∧ Hid (wr.ownsRow w.heap.size 3 1 (.slice A' k c') (nums ((rowR xs st).take k)).length (nums ((rowR xs st).take k))) ∧ Hid (Below w.heap.size w wr)) (fun _ i _ => n - (intOf i).toNat)
  case atStart => exact ⟨0, none, 0, by omega, rfl, rfl, hid (World.ownsRow_nil _ _ _ _), hid (below_drewN (Below.refl _ w) _)⟩
  case round =>
    obtain ⟨k, A', c', hk, rfl, rfl, HO, HB⟩ := hrel
    by_cases hkn : k < n
    · obtain ⟨ad, rfl, hbl, hcc⟩ := (h.out.below (HB.out.mono hB)) (by have := HL.out; omega)
      obtain ⟨t, ht⟩ : ∃ t, t = (k + st) % n := ⟨_, rfl⟩
      have htn : t < n := by rw [ht]; exact Nat.mod_lt _ (by omega)
      have hc1 := hcc t (by have := HL.out; omega)
      have hs : IntKind.i64.wrap ((k : Int) + (st : Int)) = (k : Int) + (st : Int) := by rw [IntKind.wrap_i64]; omega
      have hmod : ((k : Int) + (st : Int)).tmod (n : Int) = (t : Int) := by
        rw [Int.tmod_eq_emod_of_nonneg (by omega), ht, Int.natCast_emod, Int.natCast_add]
      have hnext : nums ((rowR xs st).take (k + 1)) = nums ((rowR xs st).take k) ++ [Value.int .i64 (xs.getD t 0)] := by
        rw [nums_snoc _ _ (by rw [rowR_length]; have := HL.out; omega), rowR_at _ _ _ (by have := HL.out; omega), HL.out, ← ht]
      obtain ⟨y, hy⟩ : ∃ y, y = xs.getD t 0 := ⟨_, rfl⟩
      rw [← hy] at hc1 hnext
      have HN := hid hnext
      have hlen : (nums ((rowR xs st).take k)).length = k := by rw [nums_length, List.length_take, rowR_length]; have := HL.out; omega
      have hsz := hid (show ((nums ((rowR xs st).take k)).length + [Value.int .i64 y].length) * 8 ≤ 140737488355328 by rw [hlen]; simp; omega)
      have HLEN := hid hlen
      have hz := HB.out.size
      clear hy hcc ht hnext hlen
      go_wp2_with (at_builtin; refine wpList_app _ rfl (.tmp 18) (.tmp 28) 22 3 (.int .i64 0) 8 rfl Try.underlying22 info3 rfl (by decide) w.heap.size (.slice A' k c') (nums ((rowR xs st).take k)) rfl ?own (wr.alloc (.cells #[.int .i64 y] 3)).heap.size (some ⟨wr.heap.size, 0, none⟩) 1 1 [.int .i64 y] rfl rfl ?hold ?one hsz.out ?base ?_)
      case own => exact HO.out.alloc _
      case hold => exact (Holds.of_blk (Blk.new wr 3 #[.int .i64 y]) 0 1 (by simp))
      case one =>
        intro u hu
        simp only [List.mem_singleton] at hu
        subst hu
        rfl
      case base => simp; omega
      intro v' w' hown hg _
      have hx : Hid (w'.ownsRow w.heap.size 3 1 v' (nums ((rowR xs st).take (k + 1))).length (nums ((rowR xs st).take (k + 1)))) := hid (by rw [HN.out]; simpa using hown)
      obtain ⟨A2, c2, hv⟩ := own_form hx.out
      have hl2 : (nums ((rowR xs st).take (k + 1))).length = k + 1 := by rw [HN.out, List.length_append, HLEN.out]; rfl
      rw [hl2] at hv
      subst hv
      have HO2 := hid hx.out
      have HB2 : Hid (Below w.heap.size w w') := hid ((HB.out.alloc hz _).grown hg (by simp; omega) (fun q hq => (HO.out.lt q hq).1))
      clear hown hg hl2
      go_wp2_with fail
      go_roundw
      case rel => exact ⟨k + 1, A2, c2, by omega, by go_num, rfl, HO2, HB2⟩
      case measure => simp [intOf]; omega
    · obtain rfl : k = n := by omega
      go_wp2
      go_ret2
      have hx := HO.out
      rw [List.take_of_length_le (by rw [rowR_length]; exact Nat.le_of_eq HL.out), nums_length, rowR_length, HL.out] at hx
      exact ⟨_, _, rfl, IntsAt.of_holds (Holds.of_own hx), HB.out⟩

end Go.Proofs.Ytdobilcfjpmakaa
