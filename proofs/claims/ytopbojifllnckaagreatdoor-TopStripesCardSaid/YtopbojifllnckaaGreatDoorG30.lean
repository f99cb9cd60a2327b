/- layout: where fragments stand. members: a group of four, step by step. -/
import Derived.WalkMore
import Derived.ScopeJumps
import Derived.BigQuiet
import Derived.Deep.QuietTactic
import Derived.Deep.RegionWith
import Derived.Deep.RegionHeld3
import Derived.Deep.RegionLaw
import Derived.Deep.OwnRows
import Derived.Test.YtopbojifllnckaaGreatDoorG21
namespace Go.Proofs.YtopbojifllnckaaGreatDoor
open Go.RowKit
attribute [local irreducible] wpQuiet
/-- A slice at A reads the numbers xs, and lies below block B. -/
def IntsAt (w : World) (B : Nat) (A : Option Addr) (xs : List Int) : Prop :=
  0 < xs.length → ∃ ad, A = some ad ∧ ad.block < B ∧ ∀ j, j < xs.length → w.cell? (ad.add j) = some (.int .i64 (xs.getD j 0))
section
variable {w w' : World} {B B' : Nat} {A : Option Addr} {xs : List Int}
theorem IntsAt.keep (h : IntsAt w B A xs) (hk : ∀ k, k < B → w'.heap[k]? = w.heap[k]?) : IntsAt w' B A xs := fun hn => by
  obtain ⟨ad, e, hb, hc⟩ := h hn
  exact ⟨ad, e, hb, fun j hj => (World.cell?_of_block (w := w) (hk _ (by rw [block_add]; exact hb))).trans (hc j hj)⟩
theorem IntsAt.below (h : IntsAt w B A xs) (hb : Below B w w') : IntsAt w' B A xs := h.keep fun k hk => hb.block k hk
theorem IntsAt.more (h : IntsAt w B A xs) (hB : B ≤ B') : IntsAt w B' A xs := fun hn => by
  obtain ⟨ad, e, hb, hc⟩ := h hn
  exact ⟨ad, e, by omega, hc⟩
theorem IntsAt.drewN (h : IntsAt w B A xs) (n : Nat) : IntsAt (w.drewN n) B A xs := h
theorem IntsAt.take (h : IntsAt w B A xs) (n : Nat) : IntsAt w B A (xs.take n) := fun hn => by
  rw [List.length_take] at hn
  obtain ⟨ad, e, hb, hc⟩ := h (by omega)
  refine ⟨ad, e, hb, fun j hj => ?_⟩
  rw [List.length_take] at hj
  rw [hc j (by omega)]
  simp only [List.getD, List.getElem?_take]
  rw [if_pos (by omega)]
theorem IntsAt.of_holds (h : Holds w B A (xs.map (Value.int .i64))) : IntsAt w B A xs := fun hn => by
  obtain ⟨ad, e, hb, hc⟩ := h (by simpa using hn)
  refine ⟨ad, e, hb, fun j hj => hc j _ ?_⟩
  rw [List.getElem?_map, List.getElem?_eq_getElem hj]
  simp only [List.getD, List.getElem?_eq_getElem hj, Option.getD_some, Option.map_some]
theorem IntsAt.blk {g : Nat} {t : TypeId} {cs : Array Value} (h : Blk w g t cs) (hx : cs.toList = xs.map (Value.int .i64)) (hg : g < B) : IntsAt w B (some ⟨g, 0, none⟩) xs := fun _ =>
  ⟨_, rfl, hg, fun j hj => by
    rw [add_plain, h.cell, ← Array.getElem?_toList, hx, List.getElem?_map, List.getElem?_eq_getElem hj]
    simp only [List.getD, List.getElem?_eq_getElem hj, Option.getD_some, Option.map_some]⟩
end
/-- The first place of a number, or -1. -/
def atI (xs : List Int) (x : Int) : Int := if x ∈ xs then (xs.idxOf x : Int) else -1
theorem atI_found {xs : List Int} {x : Int} {i : Nat} (hi : i < xs.length) (hx : xs.getD i 0 = x) (hn : ∀ j, j < i → xs.getD j 0 ≠ x) : atI xs x = i := by
  have hg : xs[i] = x := by simpa [List.getD, hi] using hx
  have hm : x ∈ xs := hg ▸ List.getElem_mem hi
  unfold atI
  rw [if_pos hm]
  have hlt : xs.idxOf x < xs.length := List.idxOf_lt_length_of_mem hm
  have hat : xs[xs.idxOf x] = x := List.getElem_idxOf hlt
  rcases Nat.lt_trichotomy (xs.idxOf x) i with h | h | h
  · exact absurd (by simp [List.getD, hlt]) (hn _ h)
  · rw [h]
  · have := List.not_of_lt_findIdx (p := fun y => y == x) h
    simp at this
    exact absurd hg this
theorem atI_none {xs : List Int} {x : Int} (hn : ∀ j, j < xs.length → xs.getD j 0 ≠ x) : atI xs x = -1 := by
  unfold atI
  rw [if_neg]
  intro hm
  obtain ⟨i, hi, hx⟩ := List.getElem_of_mem hm
  exact hn i hi (by simpa [List.getD, hi] using hx)
set_option maxHeartbeats 400000 in
theorem idxAt_any {A : Option Addr} {n c B : Nat} {xs : List Int} {w : World} (x : Int) (h : Hid (IntsAt w B A xs)) (hn : xs.length = n) (hl : n ≤ maxLen) :
    Calls Tryz.prog 169 #[.slice A n c, .int .i64 x] w fun e w' => e = .returned (.int .i64 (atI xs x)) ∧ w = w' := by
  have hl' : n ≤ 9223372036854775807 := by unfold maxLen at hl; omega
  go_enter Tryz.func169, Tryz.ntmps169
  go_wp2
  go_loop [8] (fun i => ∃ k : Nat, k ≤ n ∧ i = .int .i64 k ∧ Hid (∀ j, j < k → xs.getD j 0 ≠ x)) (fun i => n - (intOf i).toNat)
  case atStart => exact ⟨0, by omega, rfl, fun j hj => absurd hj (by omega)⟩
  case round =>
    obtain ⟨k, hk, rfl, hs⟩ := hrel
    by_cases hkn : k < n
    · obtain ⟨ad, rfl, _, hc⟩ := h.out (by omega)
      have hc1 := hc k (by omega)
      obtain ⟨y, hy⟩ : ∃ y, y = xs.getD k 0 := ⟨_, rfl⟩
      rw [← hy] at hc1
      have HY := hid hy
      clear hy hc
      by_cases hxy : x = y
      · subst hxy
        go_wp2
        go_ret
        rw [atI_found (by omega) HY.out.symm hs.out]
        exact ⟨rfl, rfl⟩
      · go_wp2
        go_round
        case rel => exact ⟨k + 1, by omega, by go_num, hid fun j hj => by
          rcases Nat.lt_or_ge j k with h1 | h1
          · exact hs.out j h1
          · obtain rfl : j = k := by omega
            rw [← HY.out]; exact fun h => hxy h.symm⟩
        case measure => simp [intOf]; omega
    · obtain rfl : k = n := by omega
      go_wp2
      go_ret
      rw [atI_none (by rw [hn]; exact hs.out)]
      exact ⟨rfl, rfl⟩
theorem has_any {A : Option Addr} {n c B : Nat} {xs : List Int} {w : World} (x : Int) (h : Hid (IntsAt w B A xs)) (hn : xs.length = n) (hl : n ≤ maxLen) :
    Calls Tryz.prog 120 #[.slice A n c, .int .i64 x] w fun e w' => e = .returned (.bool (decide (0 ≤ atI xs x))) ∧ w = w' := by
  go_enter Tryz.func120, Tryz.ntmps120
  go_wp2_with fail
  refine (idxAt_any x h hn hl).mono ?_
  rintro e w' ⟨rfl, rfl⟩
  go_wp2_with fail
  go_ret
  exact ⟨rfl, rfl⟩
def okAt (xs : List Int) (i : Nat) : Bool := decide (0 ≤ xs.getD i 0) && decide (xs.getD i 0 ≤ 63) && decide (atI (xs.take i) (xs.getD i 0) < 0)
def apartB (xs : List Int) : Bool := (List.range xs.length).all (okAt xs)
theorem apart_yes {xs : List Int} (h : ∀ j, j < xs.length → okAt xs j = true) : apartB xs = true :=
  List.all_eq_true.2 fun j hj => h j (List.mem_range.1 hj)
theorem apart_no {xs : List Int} {i : Nat} (hi : i < xs.length) (h : okAt xs i = false) : apartB xs = false :=
  List.all_eq_false.2 ⟨i, List.mem_range.2 hi, by simp [h]⟩
def grpB (xs : List Int) : Bool := decide (2 ≤ xs.length) && (decide (xs.length ≤ 8) && apartB xs)
theorem grp_short {xs : List Int} (h : ¬ (2 ≤ xs.length ∧ xs.length ≤ 8)) : grpB xs = false := by
  unfold grpB
  simp only [Bool.and_eq_false_iff, decide_eq_false_iff_not]
  omega
theorem grp_mid {xs : List Int} (h : 2 ≤ xs.length ∧ xs.length ≤ 8) : grpB xs = apartB xs := by
  unfold grpB
  rw [decide_eq_true h.1, decide_eq_true h.2]
  rfl
set_option maxHeartbeats 1000000 in
theorem lgroup_any {A : Option Addr} {n c B : Nat} {xs : List Int} {w : World} (h : Hid (IntsAt w B A xs)) (hn : xs.length = n) (hc : n ≤ c) (hl : c ≤ maxLen) :
    Calls Tryz.prog 245 #[.slice A n c] w fun e w' => e = .returned (.bool (grpB xs)) ∧ w = w' := by
  have hl' : n ≤ 9223372036854775807 := by unfold maxLen at hl; omega
  by_cases h2 : n < 2
  · rw [grp_short (by omega)]
    go_enter Tryz.func245, Tryz.ntmps245
    go_wp2_with fail
    go_ret
    exact ⟨rfl, rfl⟩
  · by_cases h8 : 8 < n
    · rw [grp_short (by omega)]
      go_enter Tryz.func245, Tryz.ntmps245
      go_wp2_with fail
      go_ret
      exact ⟨rfl, rfl⟩
    · have hr := hid (grp_mid (xs := xs) (by omega))
      obtain ⟨r, hrr⟩ : ∃ r, r = grpB xs := ⟨_, rfl⟩
      rw [← hrr]
      have HR : Hid (r = apartB xs) := hid (hrr.trans hr.out)
      clear hr hrr
      go_enter Tryz.func245, Tryz.ntmps245
      go_wp2
      go_loop [15] (fun i => ∃ k : Nat, k ≤ n ∧ i = .int .i64 k ∧ Hid (∀ j, j < k → okAt xs j = true)) (fun i => n - (intOf i).toNat)
      case atStart => exact ⟨0, by omega, rfl, fun j hj => absurd hj (by omega)⟩
      case round =>
        obtain ⟨k, hk, rfl, hs⟩ := hrel
        by_cases hkn : k < n
        · obtain ⟨ad, rfl, _, hcc⟩ := h.out (by omega)
          have hc1 := hcc k (by omega)
          obtain ⟨y, hy⟩ : ∃ y, y = xs.getD k 0 := ⟨_, rfl⟩
          rw [← hy] at hc1
          have HY := hid hy
          clear hy hcc
          have hT := hid (h.out.take k)
          have hlen : (xs.take k).length = k := by rw [List.length_take]; omega
          have HL := hid hlen
          clear hlen
          by_cases h0 : y < 0
          · go_wp2
            go_ret
            have : okAt xs k = false := by unfold okAt; rw [← HY.out]; simp; omega
            rw [HR.out, apart_no (by omega) this]
            exact ⟨rfl, rfl⟩
          · by_cases h63 : 63 < y
            · go_wp2
              go_ret
              have : okAt xs k = false := by unfold okAt; rw [← HY.out]; simp; omega
              rw [HR.out, apart_no (by omega) this]
              exact ⟨rfl, rfl⟩
            · obtain ⟨z, hz⟩ : ∃ z, z = atI (xs.take k) y := ⟨_, rfl⟩
              have hcall := fun (c' : Nat) => has_any (w := w) (c := c') y hT HL.out (by omega)
              rw [← hz] at hcall
              have hkc : k ≤ c := by omega
              have HZ := hid hz
              have HC := hid hcall
              clear hz hcall
              by_cases hz0 : 0 ≤ z
              · go_wp2_with fail
                refine (HC.out _).mono ?_
                rintro e w' ⟨rfl, rfl⟩
                go_wp2_with fail
                go_ret
                have : okAt xs k = false := by unfold okAt; rw [← HY.out, ← HZ.out]; simp; omega
                rw [HR.out, apart_no (by omega) this]
                exact ⟨rfl, rfl⟩
              · go_wp2_with fail
                refine (HC.out _).mono ?_
                rintro e w' ⟨rfl, rfl⟩
                go_wp2_with fail
                go_round
                case rel => exact ⟨k + 1, by omega, by go_num, hid fun j hj => by
                  rcases Nat.lt_or_ge j k with h1 | h1
                  · exact hs.out j h1
                  · obtain rfl : j = k := by omega
                    unfold okAt; rw [← HY.out, ← HZ.out]; simp; omega⟩
                case measure => simp [intOf]; omega
        · obtain rfl : k = n := by omega
          go_wp2
          go_ret
          rw [HR.out, apart_yes (by rw [hn]; exact hs.out)]
          exact ⟨rfl, rfl⟩
/-- A turn that is not too great. -/
theorem turned_any {A : Option Addr} {n c : Nat} {a b : Nat} {w : World} (h1 : 1 ≤ n) (h2 : n ≤ 8) (ha : a ≤ 4096) (hb : b ≤ 8) :
    Calls Tryz.prog 246 #[.slice A n c, .int .i64 a, .int .i64 b] w fun e w' => e = .returned (.int .i64 (((b + a) % n : Nat) : Int)) ∧ w = w' := by
  have hs : IntKind.i64.wrap ((b : Int) + (a : Int)) = (b : Int) + (a : Int) := by rw [IntKind.wrap_i64]; omega
  have ht : ((b : Int) + (a : Int)).tmod (n : Int) = (((b + a) % n : Nat) : Int) := by
    rw [Int.tmod_eq_emod_of_nonneg (by omega), Int.natCast_emod, Int.natCast_add]
  go_enter Tryz.func246, Tryz.ntmps246
  go_wp2
  go_ret
  exact ⟨rfl, rfl⟩
def rowR (xs : List Int) (st : Nat) : List Int := (List.range xs.length).map fun i => xs.getD ((i + st) % xs.length) 0
theorem rowR_length (xs : List Int) (st : Nat) : (rowR xs st).length = xs.length := by simp [rowR]
theorem rowR_at (xs : List Int) (st j : Nat) (h : j < xs.length) : (rowR xs st).getD j 0 = xs.getD ((j + st) % xs.length) 0 := by
  simp [rowR, List.getD, h]
/-- Block g is a row of n numbers, of which the first k are those of ys. -/
def RowTo (w : World) (g n k : Nat) (ys : List Int) : Prop :=
  ∃ cs : Array Value, Blk w g 3 cs ∧ cs.size = n ∧ (∀ j, j < n → ∃ u : Int, cs[j]? = some (.int .i64 u)) ∧ ∀ j, j < k → cs[j]? = some (.int .i64 (ys.getD j 0))
section
variable {w : World} {g n k : Nat} {ys : List Int}
theorem RowTo.cell (h : RowTo w g n k ys) {j : Nat} (hj : j < n) : ∃ u : Int, w.cell? ⟨g, j, none⟩ = some (.int .i64 u) ∧ w.frozen? ⟨g, j, none⟩ = false := by
  obtain ⟨cs, hb, _, h1, _⟩ := h
  obtain ⟨u, hu⟩ := h1 j hj
  exact ⟨u, by rw [hb.cell, hu], hb.frozen j⟩
theorem RowTo.set_ (h : RowTo w g n k ys) (hk : k < n) (m : Nat) : RowTo ((w.setCell ⟨g, k, none⟩ (.int .i64 (ys.getD k 0))).drewN m) g n (k + 1) ys := by
  obtain ⟨cs, hb, hs, h1, h2⟩ := h
  refine ⟨_, (hb.set_ k (.int .i64 (ys.getD k 0))).drewN m, by simpa using hs, fun j hj => ?_, fun j hj => ?_⟩
  · rw [Array.getElem?_setIfInBounds]
    split
    · rw [if_pos (by omega)]; exact ⟨_, rfl⟩
    · exact h1 j hj
  · rw [Array.getElem?_setIfInBounds]
    split
    · rename_i e; subst e; rw [if_pos (by omega)]
    · exact h2 j (by omega)
theorem RowTo.ints (h : RowTo w g n n ys) (hn : ys.length = n) (B : Nat) (hg : g < B) : IntsAt w B (some ⟨g, 0, none⟩) ys := fun _ => by
  obtain ⟨cs, hb, _, _, h2⟩ := h
  exact ⟨_, rfl, hg, fun j hj => by rw [add_plain, hb.cell]; exact h2 j (by omega)⟩
theorem RowTo.new (w : World) (n : Nat) (ys : List Int) : RowTo (w.alloc (.cells (madeCells #[.int .i64 0] n) 3)) w.heap.size n 0 ys := by
  refine ⟨_, Blk.new w 3 _, by simp [madeCells], fun j hj => ⟨0, by simp [madeCells, hj, Nat.mod_one]⟩, fun j hj => absurd hj (by omega)⟩
theorem RowTo.below {w' : World} {B : Nat} (h : RowTo w g n k ys) (hb : Below B w w') (hg : g < B) : RowTo w' g n k ys := by
  obtain ⟨cs, h0, h1⟩ := h
  exact ⟨cs, h0.below hb hg, h1⟩
end
theorem grp_bound {xs : List Int} (h : grpB xs = true) : 2 ≤ xs.length ∧ xs.length ≤ 8 := by
  unfold grpB at h
  simp only [Bool.and_eq_true, decide_eq_true_eq] at h
  exact ⟨h.1, h.2.1⟩
set_option maxHeartbeats 1000000 in
theorem layAll_ok {A : Option Addr} {n c B : Nat} {xs : List Int} {st : Nat} {w : World} (h : Hid (IntsAt w B A xs)) (hB : B ≤ w.heap.size) (hn : xs.length = n) (hc : n ≤ c) (hl : c ≤ maxLen) (hg : grpB xs = true) (hst : st < 4096) :
    Calls Tryz.prog 185 #[.slice A n c, .int .i64 st] w fun e w' => ∃ A', e = .returned (.tuple #[.slice A' n n, .int .i64 0]) ∧ IntsAt w' w'.heap.size A' (rowR xs st) ∧ Below w.heap.size w w' := by
  obtain ⟨hn2, hn8⟩ := grp_bound hg
  rw [hn] at hn2 hn8
  have hmk : ∀ W : World, (Instr.makeSlice 26 (.int .i64 (n : Int)) (.int .i64 (n : Int))).run Tryz.prog W = .ok (.slice (some ⟨W.heap.size, 0, none⟩) n n) (W.alloc (.cells (madeCells #[.int .i64 0] n) 3)) := by
    intro W
    exact run_make_row' 26 3 (.int .i64 0) 8 Tryz.underlying26 info3 rfl .i64 .i64 n (by omega) (by omega) W
  have hcall := lgroup_any (w := w) h hn hc hl
  rw [hg] at hcall
  have HC := hid hcall
  have HL := hid hn
  clear hg hcall hn
  go_enter Tryz.func185, Tryz.ntmps185
  go_wp2_with fail
  refine HC.out.mono ?_
  rintro e w' ⟨rfl, rfl⟩
  go_wp2_with fail
  go_loopw [24] (fun i wr => ∃ k : Nat, k ≤ n ∧ i = .int .i64 k ∧ RowTo wr w.heap.size n k (rowR xs st) ∧ Below w.heap.size w wr) (fun i _ => n - (intOf i).toNat)
  case atStart => exact ⟨0, by omega, rfl, RowTo.new w n _, (Below.refl _ _).alloc (Nat.le_refl _) _⟩
  case round =>
    obtain ⟨k, hk, rfl, hm, hb⟩ := hrel
    have HM := hid hm
    have HB := hid hb
    clear hm hb
    by_cases hkn : k < n
    · obtain ⟨u, hu, hf⟩ := HM.out.cell hkn
      obtain ⟨ad, rfl, hbl, hcc⟩ := (h.out.below (HB.out.mono hB)) (by have := HL.out; omega)
      obtain ⟨t, ht⟩ : ∃ t, t = (k + st) % n := ⟨_, rfl⟩
      have htn : t < n := by rw [ht]; exact Nat.mod_lt _ (by omega)
      have hc1 := hcc t (by have := HL.out; omega)
      have hset := HM.out.set_ hkn 0
      rw [rowR_at _ _ _ (by have := HL.out; omega), HL.out, ← ht] at hset
      obtain ⟨y, hy⟩ : ∃ y, y = xs.getD t 0 := ⟨_, rfl⟩
      rw [← hy] at hc1 hset
      have HS := hid hset
      have hcall := fun W => turned_any (A := some ad) (n := n) (c := c) (a := st) (b := k) (w := W) (by omega) hn8 (by omega) (by omega)
      rw [← ht] at hcall
      have HT := hid hcall
      have hz := HB.out.size
      clear hcall hy hcc ht hset
      go_wp2_with fail
      refine (HT.out _).mono ?_
      rintro e w' ⟨rfl, rfl⟩
      go_wp2_with fail
      go_roundw
      case rel => exact ⟨k + 1, by omega, by go_num, HS.out, HB.out.setCell (Nat.le_refl _) _⟩
      case measure => simp [intOf]; omega
    · obtain rfl : k = n := by omega
      go_wp2
      go_ret2
      exact ⟨_, rfl, HM.out.ints (by rw [rowR_length]; exact HL.out) _ (by have := HM.out; obtain ⟨cs, hb, _⟩ := this; exact hb.lt), HB.out⟩
set_option maxHeartbeats 1000000 in
theorem layServer_ok {A : Option Addr} {n c B : Nat} {xs : List Int} {st j : Nat} {w : World} (h : Hid (IntsAt w B A xs)) (hB : B ≤ w.heap.size) (hn : xs.length = n) (hc : n ≤ c) (hl : c ≤ maxLen) (hg : grpB xs = true) (hst : st < 4096) (hj : j < n) :
    Calls Tryz.prog 122 #[.slice A n c, .int .i64 st, .int .i64 j] w fun e w' => e = .returned (.tuple #[.int .i64 (xs.getD ((j + st) % n) 0), .int .i64 0]) ∧ Below w.heap.size w w' := by
  obtain ⟨hn2, hn8⟩ := grp_bound hg
  rw [hn] at hn2 hn8
  have hall := hid (layAll_ok (w := w) h hB hn hc hl hg hst)
  obtain ⟨y, hy⟩ : ∃ y, y = xs.getD ((j + st) % n) 0 := ⟨_, rfl⟩
  rw [← hy]
  have HY := hid hy
  have HN := hid hn
  clear hg hy hn
  go_enter Tryz.func122, Tryz.ntmps122
  go_wp2_with fail
  refine hall.out.mono ?_
  rintro e w1 ⟨A1, rfl, hr, hb⟩
  obtain ⟨ad, rfl, _, hcc⟩ := hr (by rw [rowR_length, HN.out]; omega)
  have hc1 := hcc j (by rw [rowR_length, HN.out]; omega)
  rw [rowR_at _ _ _ (by rw [HN.out]; exact hj), HN.out, ← HY.out] at hc1
  have HB := hid hb
  clear hb hcc hr
  go_wp2_with fail
  go_ret2
  exact ⟨rfl, HB.out⟩
set_option maxHeartbeats 1000000 in
theorem layIndex_ok {A : Option Addr} {n c B : Nat} {xs : List Int} {st : Nat} {x : Int} {y : Nat} {w : World} (h : Hid (IntsAt w B A xs)) (hB : B ≤ w.heap.size) (hn : xs.length = n) (hc : n ≤ c) (hl : c ≤ maxLen) (hg : grpB xs = true) (hst : st < 4096) (hy : atI (rowR xs st) x = y) :
    Calls Tryz.prog 119 #[.slice A n c, .int .i64 st, .int .i64 x] w fun e w' => e = .returned (.tuple #[.int .i64 y, .int .i64 0]) ∧ Below w.heap.size w w' := by
  obtain ⟨hn2, hn8⟩ := grp_bound hg
  rw [hn] at hn2 hn8
  have hall := hid (layAll_ok (w := w) h hB hn hc hl hg hst)
  have HY := hid hy
  have HN := hid hn
  have hmx : n ≤ maxLen := by omega
  clear hg hy hn
  go_enter Tryz.func119, Tryz.ntmps119
  go_wp2_with fail
  refine hall.out.mono ?_
  rintro e w1 ⟨A1, rfl, hr, hb⟩
  have HRR := hid hr
  have HB := hid hb
  clear hb hr
  go_wp2_with fail
  refine (idxAt_any x HRR (by rw [rowR_length]; exact HN.out) hmx).mono ?_
  rintro e w' ⟨rfl, rfl⟩
  rw [HY.out]
  go_wp2_with fail
  go_ret2
  exact ⟨rfl, HB.out⟩
end Go.Proofs.YtopbojifllnckaaGreatDoor
namespace Go.Proofs.YtopbojifllnckaaGreatDoor
open Go.RowKit
attribute [local irreducible] wpQuiet
/-- A group of four: its servers, how many spares (of one, 4), its epoch, hole. -/
structure GS where
  x0 : Int
  x1 : Int
  x2 : Int
  x3 : Int
  m : Nat
  ep : Int
  hole : Int
  fil : Bool
  gone : Int
def GS.xs (s : GS) : List Int := [s.x0, s.x1, s.x2, s.x3]
def Grp4 (S : Nat → Prop) (w : World) (g : Nat) (s : GS) : Prop :=
  ∃ b1 b2 : Nat, Blk w g 153 #[.slice (some ⟨b1, 0, none⟩) 4 4, .slice (some ⟨b2, 0, none⟩) s.m s.m, .int .i64 s.ep, .int .i64 s.hole, .bool s.fil, .int .i64 s.gone] ∧
    Blk w b1 3 #[.int .i64 s.x0, .int .i64 s.x1, .int .i64 s.x2, .int .i64 s.x3] ∧ Blk w b2 3 #[.int .i64 4] ∧ S g ∧ S b1 ∧ S b2
section
variable {S S' : Nat → Prop} {w w' : World} {g : Nat} {s : GS}
theorem Grp4.keep (h : Grp4 S w g s) (hk : ∀ k, S k → k < w.heap.size → w'.heap[k]? = w.heap[k]?) : Grp4 S w' g s := by
  obtain ⟨b1, b2, h1, h2, h3, h4, h5, h6⟩ := h
  exact ⟨b1, b2, (hk _ h4 h1.lt).trans h1, (hk _ h5 h2.lt).trans h2, (hk _ h6 h3.lt).trans h3, h4, h5, h6⟩
theorem Grp4.mono (h : Grp4 S w g s) (hS : ∀ k, S k → S' k) : Grp4 S' w g s := by
  obtain ⟨b1, b2, h1, h2, h3, h4, h5, h6⟩ := h
  exact ⟨b1, b2, h1, h2, h3, hS _ h4, hS _ h5, hS _ h6⟩
theorem gEpoch4 (h : Grp4 S w g s) : Calls Tryz.prog 43 #[.pointer (some ⟨g, 0, none⟩)] w fun e w' => e = .returned (.int .i64 s.ep) ∧ w = w' := by
  obtain ⟨b1, b2, h1, _⟩ := h
  have e2 : w.cell? ⟨g, 2, none⟩ = some (.int .i64 s.ep) := (h1.cell 2).trans rfl
  generalize s.ep = ep at e2
  clear h1
  go_enter Tryz.func43, Tryz.ntmps43
  go_wp2_with fail
  go_ret
  exact ⟨rfl, rfl⟩
theorem run_make4 (w : World) : (Instr.makeSlice 26 (.int .i64 4) (.int .i64 4)).run Tryz.prog w = .ok (.slice (some ⟨w.heap.size, 0, none⟩) 4 4) (w.alloc (.cells #[.int .i64 0, .int .i64 0, .int .i64 0, .int .i64 0] 3)) := by
  obtain ⟨i0, hi, hzz⟩ := Option.map_eq_some_iff.1 info3
  simp only [Prod.mk.injEq] at hzz
  obtain ⟨hz0, hz1, hz2⟩ := hzz
  have := run_makeSlice (P := Tryz.prog) (w := w) 26 3 i0 (.int .i64 0) Tryz.underlying26 hi hz0 .i64 .i64 (4 : Int) (4 : Int) (by omega) (by omega) (by rw [hz1]; decide) (by rw [hz2]; decide) (by omega)
  have hc : madeCells (Value.int .i64 0).cells (4 * i0.size) = #[.int .i64 0, .int .i64 0, .int .i64 0, .int .i64 0] := by rw [hz1]; exact Array.ext' ((toList_madeCells_one _ _).trans rfl)
  rw [← hc]
  exact this
set_option maxRecDepth 100000 in
/-- Four servers, in new memory. -/
theorem list_four {a b c d : Int} (h : Blk w g 3 #[.int .i64 a, .int .i64 b, .int .i64 c, .int .i64 d]) :
    Calls Tryz.prog 80 #[.slice (some ⟨g, 0, none⟩) 4 4] w fun e w' => e = .returned (.slice (some ⟨w.heap.size, 0, none⟩) 4 4) ∧ Blk w' w.heap.size 3 #[.int .i64 a, .int .i64 b, .int .i64 c, .int .i64 d] ∧ Below w.heap.size w w' := by
  have e0 : w.cell? ⟨g, 0, none⟩ = some (.int .i64 a) := (h.cell 0).trans rfl
  have e1 : w.cell? ⟨g, 1, none⟩ = some (.int .i64 b) := (h.cell 1).trans rfl
  have e2 : w.cell? ⟨g, 2, none⟩ = some (.int .i64 c) := (h.cell 2).trans rfl
  have e3 : w.cell? ⟨g, 3, none⟩ = some (.int .i64 d) := (h.cell 3).trans rfl
  have hlt := h.lt
  have hmk := run_make4 w
  have hb := Blk.new w 3 #[.int .i64 0, .int .i64 0, .int .i64 0, .int .i64 0]
  have hsrc : ∀ j v, ([.int .i64 a, .int .i64 b, .int .i64 c, .int .i64 d] : List Value)[j]? = some v → (w.alloc (.cells #[.int .i64 0, .int .i64 0, .int .i64 0, .int .i64 0] 3)).cell? ((⟨g, 0, none⟩ : Addr).add j) = some v := fun j v hj => by
    rw [add_plain, (h.alloc _).cell]
    rw [← hj]
    simp
  have h1 : ∀ v ∈ ([.int .i64 a, .int .i64 b, .int .i64 c, .int .i64 d] : List Value), v.oneCell' = true := fun v hv => by
    simp only [List.mem_cons, List.not_mem_nil, or_false] at hv
    rcases hv with rfl | rfl | rfl | rfl <;> rfl
  have hcp := run_copy_row (P := Tryz.prog) (w.alloc (.cells #[.int .i64 0, .int .i64 0, .int .i64 0, .int .i64 0] 3)) 26 26 3 3 w.heap.size 0 4 4 ⟨g, 0, none⟩ 4 4 _ 3 _ Tryz.underlying26 size3 hb rfl hsrc (Nat.le_refl _) h1
  obtain ⟨W, hW⟩ : ∃ W, W = (w.alloc (.cells #[.int .i64 0, .int .i64 0, .int .i64 0, .int .i64 0] 3)).setRow w.heap.size #[.int .i64 a, .int .i64 b, .int .i64 c, .int .i64 d] := ⟨_, rfl⟩
  have hcp2 : (Builtin.copy_ #[26, 26] 3 #[.slice (some ⟨w.heap.size, 0, none⟩) 4 4, .slice (some ⟨g, 0, none⟩) 4 4]).run Tryz.prog (w.alloc (.cells #[.int .i64 0, .int .i64 0, .int .i64 0, .int .i64 0] 3)) = .ok (.int .i64 4) W := by rw [hW]; exact hcp
  have hB : Hid (Blk W w.heap.size 3 #[.int .i64 a, .int .i64 b, .int .i64 c, .int .i64 d] ∧ Below w.heap.size w W) := by
    rw [hW]
    exact ⟨setRow_heap _ _ _ _ _ _ hb, below_setRow ((Below.refl _ _).alloc (Nat.le_refl _) _) (Nat.le_refl _) _⟩
  clear h hb hsrc h1 e0 e1 e2 e3 hcp hW
  go_enter Tryz.func80, Tryz.ntmps80
  go_wp2_with fail
  go_ret
  exact ⟨rfl, hB.out⟩
theorem gServers4 (h : Grp4 S w g s) : Calls Tryz.prog 157 #[.pointer (some ⟨g, 0, none⟩)] w fun e w' => e = .returned (.slice (some ⟨w.heap.size, 0, none⟩) 4 4) ∧ Blk w' w.heap.size 3 #[.int .i64 s.x0, .int .i64 s.x1, .int .i64 s.x2, .int .i64 s.x3] ∧ Below w.heap.size w w' := by
  obtain ⟨b1, b2, h1, h2, _⟩ := h
  have e0 : w.cell? ⟨g, 0, none⟩ = some (.slice (some ⟨b1, 0, none⟩) 4 4) := (h1.cell 0).trans rfl
  have hc := hid (list_four h2)
  have hl := h1.lt
  clear h1 h2
  go_enter Tryz.func157, Tryz.ntmps157
  go_wp2_with fail
  refine hc.out.mono ?_
  rintro e w' ⟨rfl, h1, h2⟩
  have H1 := hid h1
  have H2 := hid h2
  clear h1 h2
  go_wp2_with fail
  go_ret
  exact ⟨rfl, H1.out, H2.out⟩
theorem Grp4.ints (h : Grp4 S w g s) : ∃ b1, w.cell? ⟨g, 0, none⟩ = some (.slice (some ⟨b1, 0, none⟩) 4 4) ∧ IntsAt w w.heap.size (some ⟨b1, 0, none⟩) s.xs := by
  obtain ⟨b1, b2, h1, h2, _⟩ := h
  exact ⟨b1, (h1.cell 0).trans rfl, IntsAt.blk h2 rfl h2.lt⟩
set_option maxRecDepth 100000 in
set_option maxHeartbeats 800000 in
theorem gFail4 (h : Grp4 S w g s) (k : Nat) (a : Int) (hk : atI s.xs a = k) (hh : s.hole = -1) (hep : 0 ≤ s.ep ∧ s.ep < 1000) : Calls Tryz.prog 165 #[.pointer (some ⟨g, 0, none⟩), .int .i64 a, .int .i64 s.ep] w fun e w' => e = .returned (.int .i64 0) ∧
    Grp4 S w' g { s with ep := s.ep + 1, hole := k, fil := false, gone := a } ∧ Only S w w' ∧ w'.heap.size = w.heap.size := by
  obtain ⟨x0, x1, x2, x3, m, ep, hole, fil, gone⟩ := s
  simp only at hh hep
  subst hh
  obtain ⟨b1, b2, h1, h2, h3, h8, h9, h10⟩ := h
  simp only at h1 h2 h3
  have e0 : w.cell? ⟨g, 0, none⟩ = some (.slice (some ⟨b1, 0, none⟩) 4 4) := (h1.cell 0).trans rfl
  have e2 : w.cell? ⟨g, 2, none⟩ = some (.int .i64 ep) := (h1.cell 2).trans rfl
  have e3 : w.cell? ⟨g, 3, none⟩ = some (.int .i64 (-1)) := (h1.cell 3).trans rfl
  have e4 : w.cell? ⟨g, 4, none⟩ = some (.bool fil) := (h1.cell 4).trans rfl
  have e5 : w.cell? ⟨g, 5, none⟩ = some (.int .i64 gone) := (h1.cell 5).trans rfl
  have f2 := h1.frozen 2
  have f3 := h1.frozen 3
  have f4 := h1.frozen 4
  have f5 := h1.frozen 5
  have hh : IntsAt w w.heap.size (some ⟨b1, 0, none⟩) [x0, x1, x2, x3] := IntsAt.blk h2 rfl h2.lt
  have hc := idxAt_any (c := 4) (n := 4) a (hid hh) rfl (by decide)
  rw [show atI [x0, x1, x2, x3] a = (k : Int) from hk] at hc
  have HC := hid hc
  have n1 : b1 ≠ g := h2.ne_ h1 (by decide)
  have n2 : b2 ≠ g := h3.ne_ h1 (by decide)
  have hw : wrap64 (ep + 1) = ep + 1 := by unfold wrap64; omega
  have H : Hid (Grp4 S ((((w.setCell ⟨g, 3, none⟩ (.int .i64 k)).setCell ⟨g, 5, none⟩ (.int .i64 a)).setCell ⟨g, 4, none⟩ (.bool false)).setCell ⟨g, 2, none⟩ (.int .i64 (ep + 1))) g ⟨x0, x1, x2, x3, m, ep + 1, k, false, a⟩ ∧ Only S w ((((w.setCell ⟨g, 3, none⟩ (.int .i64 k)).setCell ⟨g, 5, none⟩ (.int .i64 a)).setCell ⟨g, 4, none⟩ (.bool false)).setCell ⟨g, 2, none⟩ (.int .i64 (ep + 1)))) :=
    ⟨⟨b1, b2, (((h1.set_ 3 _).set_ 5 _).set_ 4 _).set_ 2 _, (((h2.far n1 _).far n1 _).far n1 _).far n1 _, (((h3.far n2 _).far n2 _).far n2 _).far n2 _, h8, h9, h10⟩, setS h8 _ _ (setS h8 _ _ (setS h8 _ _ (setS h8 _ _ (Only.refl _ _))))⟩
  have hgl := h1.lt
  clear h1 h2 h3 h8 h9 h10 hh hc
  go_enter Tryz.func165, Tryz.ntmps165
  go_wp2_with fail
  refine HC.out.mono ?_
  rintro e w' ⟨rfl, rfl⟩
  go_wp2_with fail
  go_ret
  exact ⟨rfl, H.out.1, H.out.2, by simp [World.setCell]⟩
set_option maxRecDepth 100000 in
set_option maxHeartbeats 800000 in
theorem gDone4 (h : Grp4 S w g s) (hf : s.fil = true) (hep : 0 ≤ s.ep ∧ s.ep < 1000) : Calls Tryz.prog 170 #[.pointer (some ⟨g, 0, none⟩), .int .i64 s.ep] w fun e w' => e = .returned (.int .i64 0) ∧
    Grp4 S w' g { s with ep := s.ep + 1, hole := -1, fil := false, gone := -1 } ∧ Only S w w' ∧ w'.heap.size = w.heap.size := by
  obtain ⟨x0, x1, x2, x3, m, ep, hole, fil, gone⟩ := s
  simp only at hf hep
  subst hf
  obtain ⟨b1, b2, h1, h2, h3, h8, h9, h10⟩ := h
  simp only at h1 h2 h3
  have e2 : w.cell? ⟨g, 2, none⟩ = some (.int .i64 ep) := (h1.cell 2).trans rfl
  have e3 : w.cell? ⟨g, 3, none⟩ = some (.int .i64 hole) := (h1.cell 3).trans rfl
  have e4 : w.cell? ⟨g, 4, none⟩ = some (.bool true) := (h1.cell 4).trans rfl
  have e5 : w.cell? ⟨g, 5, none⟩ = some (.int .i64 gone) := (h1.cell 5).trans rfl
  have f2 := h1.frozen 2
  have f3 := h1.frozen 3
  have f4 := h1.frozen 4
  have f5 := h1.frozen 5
  have n1 : b1 ≠ g := h2.ne_ h1 (by decide)
  have n2 : b2 ≠ g := h3.ne_ h1 (by decide)
  have hw : wrap64 (ep + 1) = ep + 1 := by unfold wrap64; omega
  have H : Hid (Grp4 S ((((w.setCell ⟨g, 3, none⟩ (.int .i64 (-1))).setCell ⟨g, 5, none⟩ (.int .i64 (-1))).setCell ⟨g, 4, none⟩ (.bool false)).setCell ⟨g, 2, none⟩ (.int .i64 (ep + 1))) g ⟨x0, x1, x2, x3, m, ep + 1, -1, false, -1⟩ ∧ Only S w ((((w.setCell ⟨g, 3, none⟩ (.int .i64 (-1))).setCell ⟨g, 5, none⟩ (.int .i64 (-1))).setCell ⟨g, 4, none⟩ (.bool false)).setCell ⟨g, 2, none⟩ (.int .i64 (ep + 1)))) :=
    ⟨⟨b1, b2, (((h1.set_ 3 _).set_ 5 _).set_ 4 _).set_ 2 _, (((h2.far n1 _).far n1 _).far n1 _).far n1 _, (((h3.far n2 _).far n2 _).far n2 _).far n2 _, h8, h9, h10⟩, setS h8 _ _ (setS h8 _ _ (setS h8 _ _ (setS h8 _ _ (Only.refl _ _))))⟩
  have hgl := h1.lt
  clear h1 h2 h3 h8 h9 h10
  go_enter Tryz.func170, Tryz.ntmps170
  go_wp2_with fail
  go_ret
  exact ⟨rfl, H.out.1, H.out.2, by simp [World.setCell]⟩
/-- A server in place k is another one. -/
def GS.put (s : GS) (k : Nat) (y : Int) : GS := match k with
  | 0 => { s with x0 := y }
  | 1 => { s with x1 := y }
  | 2 => { s with x2 := y }
  | 3 => { s with x3 := y }
  | _ => s
theorem swap4_end {W : World} {b1 b2 hj : Nat} {x0 x1 x2 x3 ep gone : Int} (hj4 : hj < 4) (h8 : S g) (h9 : S b1) (h10 : S b2) (n1 : b1 ≠ g) (n2 : b2 ≠ g)
    (hB : Blk W g 153 #[.slice (some ⟨b1, 0, none⟩) 4 4, .slice (some ⟨b2, 0, none⟩) 0 0, .int .i64 ep, .int .i64 hj, .bool false, .int .i64 gone]) (hB1 : Blk W b1 3 #[.int .i64 x0, .int .i64 x1, .int .i64 x2, .int .i64 x3]) (hB2 : Blk W b2 3 #[.int .i64 4])
    (hO : Only S w W) (hZ : W.heap.size = w.heap.size) {e : Ending} (he : e = .returned (.tuple #[.int .i64 4, .int .i64 0])) (x : Int) (hx : x = ep + 1) :
    e = .returned (.tuple #[.int .i64 4, .int .i64 0]) ∧ Grp4 S ((((W.setCell ⟨b1, hj, none⟩ (.int .i64 4)).setCell ⟨g, 4, none⟩ (.bool true)).setCell ⟨g, 2, none⟩ (.int .i64 x)).drew) g (GS.put ⟨x0, x1, x2, x3, 0, ep + 1, hj, true, gone⟩ hj 4) ∧
      Only S w ((((W.setCell ⟨b1, hj, none⟩ (.int .i64 4)).setCell ⟨g, 4, none⟩ (.bool true)).setCell ⟨g, 2, none⟩ (.int .i64 x)).drew) ∧ ((((W.setCell ⟨b1, hj, none⟩ (.int .i64 4)).setCell ⟨g, 4, none⟩ (.bool true)).setCell ⟨g, 2, none⟩ (.int .i64 x)).drew).heap.size = w.heap.size := by
  subst hx
  have n3 : b2 ≠ b1 := fun e => by
    subst e
    unfold Blk at hB1 hB2
    rw [hB1] at hB2
    injection hB2 with h
    injection h with h
    have := congrArg Array.size h
    simp at this
  refine ⟨he, ?_, (setS h8 _ _ (setS h8 _ _ (setS h9 _ _ hO))).drew, by simp [World.setCell, hZ]⟩
  have q1 := ((hB.far (p := ⟨b1, hj, none⟩) (Ne.symm n1) (.int .i64 4)).set_ 4 (.bool true)).set_ 2 (.int .i64 (ep + 1))
  have q2 := ((hB1.set_ hj (.int .i64 4)).far (p := ⟨g, 4, none⟩) n1 (.bool true)).far (p := ⟨g, 2, none⟩) n1 (.int .i64 (ep + 1))
  have q3 := ((hB2.far (p := ⟨b1, hj, none⟩) n3 (.int .i64 4)).far (p := ⟨g, 4, none⟩) n2 (.bool true)).far (p := ⟨g, 2, none⟩) n2 (.int .i64 (ep + 1))
  rcases (show hj = 0 ∨ hj = 1 ∨ hj = 2 ∨ hj = 3 by omega) with rfl | rfl | rfl | rfl <;> exact ⟨b1, b2, q1, q2, q3, h8, h9, h10⟩
set_option maxRecDepth 100000 in
set_option maxHeartbeats 1600000 in
theorem gSwap4 (h : Grp4 S w g s) (k : Nat) (hk4 : k < 4) (hm : s.m = 1) (hk : s.hole = k) (hf : s.fil = false) (hep : 0 ≤ s.ep ∧ s.ep < 1000) : Calls Tryz.prog 166 #[.pointer (some ⟨g, 0, none⟩), .int .i64 s.ep] w fun e w' => e = .returned (.tuple #[.int .i64 4, .int .i64 0]) ∧
    Grp4 S w' g (GS.put { s with m := 0, ep := s.ep + 1, fil := true } k 4) ∧ Only S w w' ∧ w'.heap.size = w.heap.size := by
  obtain ⟨x0, x1, x2, x3, m, ep, hole, fil, gone⟩ := s
  simp only at hm hk hf hep
  subst hm hk hf
  obtain ⟨b1, b2, h1, h2, h3, h8, h9, h10⟩ := h
  simp only at h1 h2 h3
  have e0 : w.cell? ⟨g, 0, none⟩ = some (.slice (some ⟨b1, 0, none⟩) 4 4) := (h1.cell 0).trans rfl
  have e1 : w.cell? ⟨g, 1, none⟩ = some (.slice (some ⟨b2, 0, none⟩) 1 1) := (h1.cell 1).trans rfl
  have e2 : w.cell? ⟨g, 2, none⟩ = some (.int .i64 ep) := (h1.cell 2).trans rfl
  have e3 : w.cell? ⟨g, 3, none⟩ = some (.int .i64 k) := (h1.cell 3).trans rfl
  have e4 : w.cell? ⟨g, 4, none⟩ = some (.bool false) := (h1.cell 4).trans rfl
  have f1 := h1.frozen 1
  have f2 := h1.frozen 2
  have f4 := h1.frozen 4
  have d0 : ((k : Int) == -1) = false := by simp
  have ne1 : b1 ≠ g := h2.ne_ h1 (by decide)
  have n2 : b2 ≠ g := h3.ne_ h1 (by decide)
  have ey : w.cell? ⟨b2, 0, none⟩ = some (.int .i64 4) := (h3.cell 0).trans rfl
  have hx : ∃ u, w.cell? ⟨b1, k, none⟩ = some u := ⟨_, by rw [h2.cell]; exact Array.getElem?_eq_getElem (by simp; omega)⟩
  obtain ⟨u, eu⟩ := hx
  have fu := h2.frozen k
  have HA := hid (And.intro h1 (And.intro h2 (And.intro h3 (And.intro h8 (And.intro h9 h10)))))
  have ne2 : g ≠ b1 := Ne.symm ne1
  have hw : wrap64 (ep + 1) = ep + 1 := by unfold wrap64; omega
  have HWR := hid hw
  clear h1 h2 h3 h8 h9 h10 hw
  go_enter Tryz.func166, Tryz.ntmps166
  go_wp2_with fail
  obtain ⟨W, hW⟩ : ∃ W, W = w.setCell ⟨g, 1, none⟩ (.slice (some ⟨b2, 0, none⟩) 0 0) := ⟨_, rfl⟩
  have hB : Blk W g 153 #[.slice (some ⟨b1, 0, none⟩) 4 4, .slice (some ⟨b2, 0, none⟩) 0 0, .int .i64 ep, .int .i64 k, .bool false, .int .i64 gone] := by rw [hW]; exact HA.out.1.set_ 1 _
  have hB1 : Blk W b1 3 #[.int .i64 x0, .int .i64 x1, .int .i64 x2, .int .i64 x3] := by rw [hW]; exact HA.out.2.1.far ne1 _
  have hB2 : Blk W b2 3 #[.int .i64 4] := by rw [hW]; exact HA.out.2.2.1.far n2 _
  have hO : Only S w W := by rw [hW]; exact setS HA.out.2.2.2.1 _ _ (Only.refl _ _)
  have hZ : W.heap.size = w.heap.size := by rw [hW]; simp [World.setCell]
  rw [← hW]
  clear hW e0 e1 e2 e3 e4 f1 f2 f4 eu fu ey
  have e0 : W.cell? ⟨g, 0, none⟩ = some (.slice (some ⟨b1, 0, none⟩) 4 4) := (hB.cell 0).trans rfl
  have e2 : W.cell? ⟨g, 2, none⟩ = some (.int .i64 ep) := (hB.cell 2).trans rfl
  have e3 : W.cell? ⟨g, 3, none⟩ = some (.int .i64 k) := (hB.cell 3).trans rfl
  have e4 : W.cell? ⟨g, 4, none⟩ = some (.bool false) := (hB.cell 4).trans rfl
  have f2 := hB.frozen 2
  have f4 := hB.frozen 4
  have hx : ∃ u, W.cell? ⟨b1, k, none⟩ = some u := ⟨_, by rw [hB1.cell]; exact Array.getElem?_eq_getElem (by simp; omega)⟩
  obtain ⟨u, eu⟩ := hx
  have fu := hB1.frozen k
  have HB := hid (And.intro hB (And.intro hB1 (And.intro hB2 (And.intro hO hZ))))
  clear hB hB1 hB2 hO hZ
  have hj0 : (0 : Int) ≤ (k : Int) := by omega
  have hj4 : (k : Int) < 4 := by omega
  go_region_held3 (fun w' => w'.cell? ⟨g, 0, none⟩ = some (.slice (some ⟨b1, 0, none⟩) 4 4) ∧ w'.cell? ⟨g, 3, none⟩ = some (.int .i64 k)) (first | (go_keep; done) | exact ⟨keep3 e0 ne1 (by decide), keep3 e3 ne1 (by decide)⟩) (fail)
  all_goals
    go_wp2_with fail
    go_ret2
    exact swap4_end hk4 HA.out.2.2.2.1 HA.out.2.2.2.2.1 HA.out.2.2.2.2.2 ne1 n2 HB.out.1 HB.out.2.1 HB.out.2.2.1 HB.out.2.2.2.1 HB.out.2.2.2.2 rfl _ rfl
end
end Go.Proofs.YtopbojifllnckaaGreatDoor
