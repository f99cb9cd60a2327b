/- Slices of whole numbers that are read: places in them, whether two are the same. -/
import Derived.Test.YtehdclfmkeemgaaRows
import Derived.Test.YtehdclfmkeemgaaBase
import Derived.WalkMore
import Derived.ScopeJumps
import Derived.BigQuiet
import Derived.Deep.QuietTactic
import Derived.Deep.RegionWith
import Derived.Deep.RegionHeld3
import Derived.Deep.RegionLaw
import Derived.ChangeSlices
namespace Go.Proofs.Ytehdclfmkeemgaa
open Go.RowKit

/-- A slice at A reads the numbers xs, and lies below block B. -/
def IntsAt (w : World) (B : Nat) (A : Option Addr) (xs : List Int) : Prop :=
  0 < xs.length → ∃ ad, A = some ad ∧ ad.block < B ∧ ∀ j, j < xs.length → w.cell? (ad.add j) = some (.int .i64 (xs.getD j 0))
section
variable {w w' : World} {B B' : Nat} {A : Option Addr} {xs : List Int}
theorem IntsAt.keep (h : IntsAt w B A xs) (hk : ∀ k, k < B → w'.heap[k]? = w.heap[k]?) : IntsAt w' B A xs := fun hn => by
  obtain ⟨ad, e, hb, hc⟩ := h hn
  exact ⟨ad, e, hb, fun j hj => (World.cell?_of_block (w := w) (hk _ (by rw [block_add]; exact hb))).trans (hc j hj)⟩
theorem IntsAt.below (h : IntsAt w B A xs) (hb : Below B w w') : IntsAt w' B A xs := h.keep fun k hk => hb.block k hk
theorem IntsAt.more (h : IntsAt w B A xs) (hB : B ≤ B') : IntsAt w B' A xs := fun hn => by
  obtain ⟨ad, e, hb, hc⟩ := h hn
  exact ⟨ad, e, by omega, hc⟩
theorem IntsAt.drewN (h : IntsAt w B A xs) (n : Nat) : IntsAt (w.drewN n) B A xs := h
theorem IntsAt.take (h : IntsAt w B A xs) (n : Nat) : IntsAt w B A (xs.take n) := fun hn => by
  rw [List.length_take] at hn
  obtain ⟨ad, e, hb, hc⟩ := h (by omega)
  refine ⟨ad, e, hb, fun j hj => ?_⟩
  rw [List.length_take] at hj
  rw [hc j (by omega)]
  simp only [List.getD, List.getElem?_take]
  rw [if_pos (by omega)]
theorem IntsAt.holds (h : IntsAt w B A xs) : Holds w B A (xs.map (Value.int .i64)) := fun hn => by
  obtain ⟨ad, e, hb, hc⟩ := h (by simpa using hn)
  refine ⟨ad, e, hb, fun j u hu => ?_⟩
  rw [List.getElem?_map] at hu
  rcases Nat.lt_or_ge j xs.length with hj | hj
  · rw [List.getElem?_eq_getElem hj] at hu
    injection hu with hu
    rw [hc j hj, ← hu]
    simp only [List.getD, List.getElem?_eq_getElem hj, Option.getD_some]
  · rw [List.getElem?_eq_none hj] at hu; cases hu
theorem IntsAt.of_holds (h : Holds w B A (xs.map (Value.int .i64))) : IntsAt w B A xs := fun hn => by
  obtain ⟨ad, e, hb, hc⟩ := h (by simpa using hn)
  refine ⟨ad, e, hb, fun j hj => hc j _ ?_⟩
  rw [List.getElem?_map, List.getElem?_eq_getElem hj]
  simp only [List.getD, List.getElem?_eq_getElem hj, Option.getD_some, Option.map_some]
theorem IntsAt.blk {g : Nat} {t : TypeId} {cs : Array Value} (h : Blk w g t cs) (hx : cs.toList = xs.map (Value.int .i64)) (hg : g < B) : IntsAt w B (some ⟨g, 0, none⟩) xs := fun _ =>
  ⟨_, rfl, hg, fun j hj => by
    rw [add_plain, h.cell, ← Array.getElem?_toList, hx, List.getElem?_map, List.getElem?_eq_getElem hj]
    simp only [List.getD, List.getElem?_eq_getElem hj, Option.getD_some, Option.map_some]⟩
end

/-- The first place of a number, or -1. -/
def atI (xs : List Int) (x : Int) : Int := if x ∈ xs then (xs.idxOf x : Int) else -1
theorem atI_found {xs : List Int} {x : Int} {i : Nat} (hi : i < xs.length) (hx : xs.getD i 0 = x) (hn : ∀ j, j < i → xs.getD j 0 ≠ x) : atI xs x = i := by
  have hg : xs[i] = x := by simpa [List.getD, hi] using hx
  have hm : x ∈ xs := hg ▸ List.getElem_mem hi
  unfold atI
  rw [if_pos hm]
  have hlt : xs.idxOf x < xs.length := List.idxOf_lt_length_of_mem hm
  have hat : xs[xs.idxOf x] = x := List.getElem_idxOf hlt
  rcases Nat.lt_trichotomy (xs.idxOf x) i with h | h | h
  · exact absurd (by simp [List.getD, hlt]) (hn _ h)
  · rw [h]
  · have := List.not_of_lt_findIdx (p := fun y => y == x) h
    simp at this
    exact absurd hg this
theorem atI_none {xs : List Int} {x : Int} (hn : ∀ j, j < xs.length → xs.getD j 0 ≠ x) : atI xs x = -1 := by
  unfold atI
  rw [if_neg]
  intro hm
  obtain ⟨i, hi, hx⟩ := List.getElem_of_mem hm
  exact hn i hi (by simpa [List.getD, hi] using hx)

set_option maxHeartbeats 400000 in
theorem idx_any {A : Option Addr} {n c B : Nat} {xs : List Int} {w : World} (x : Int) (h : Hid (IntsAt w B A xs)) (hn : xs.length = n) (hl : n ≤ maxLen) :
    Calls Try.prog 31 #[.slice A n c, .int .i64 x] w fun e w' => e = .returned (.int .i64 (atI xs x)) ∧ w = w' := by
  have hl' : n ≤ 9223372036854775807 := by unfold maxLen at hl; omega
  go_enter Try.func31, Try.ntmps31
  go_wp2
  go_loop [8] (fun i => ∃ k : Nat, k ≤ n ∧ i = .int .i64 k ∧ Hid (∀ j, j < k → xs.getD j 0 ≠ x)) (fun i => n - (intOf i).toNat)
  case atStart => exact ⟨0, by omega, rfl, fun j hj => absurd hj (by omega)⟩
  case round =>
    obtain ⟨k, hk, rfl, hs⟩ := hrel
    by_cases hkn : k < n
    · obtain ⟨ad, rfl, _, hc⟩ := h.out (by omega)
      have hc1 := hc k (by omega)
      obtain ⟨y, hy⟩ : ∃ y, y = xs.getD k 0 := ⟨_, rfl⟩
      rw [← hy] at hc1
      have HY := hid hy
      clear hy hc
      by_cases hxy : x = y
      · subst hxy
        go_wp2
        go_ret
        rw [atI_found (by omega) HY.out.symm hs.out]
        exact ⟨rfl, rfl⟩
      · go_wp2
        go_round
        case rel => exact ⟨k + 1, by omega, by go_num, hid fun j hj => by
          rcases Nat.lt_or_ge j k with h1 | h1
          · exact hs.out j h1
          · obtain rfl : j = k := by omega
            rw [← HY.out]; exact fun h => hxy h.symm⟩
        case measure => simp [intOf]; omega
    · obtain rfl : k = n := by omega
      go_wp2
      go_ret
      rw [atI_none (by rw [hn]; exact hs.out)]
      exact ⟨rfl, rfl⟩

attribute [local irreducible] wpQuiet
set_option maxHeartbeats 1000000 in
theorem ints_any {A A' : Option Addr} {n c n' c' B B' : Nat} {xs ys : List Int} {w : World} (h : Hid (IntsAt w B A xs)) (hn : xs.length = n) (h' : Hid (IntsAt w B' A' ys)) (hn' : ys.length = n') (hl : n ≤ maxLen) :
    Calls Try.prog 12 #[.slice A n c, .slice A' n' c'] w fun e w' => e = .returned (.bool (decide (xs = ys))) ∧ ∃ m, w' = w.drewN m := by
  have hl' : n ≤ 9223372036854775807 := by unfold maxLen at hl; omega
  by_cases hne : n = n'
  · subst hne
    obtain ⟨r, hr⟩ : ∃ r, r = decide (xs = ys) := ⟨_, rfl⟩
    rw [← hr]
    have HR := hid hr
    clear hr
    go_enter Try.func12, Try.ntmps12
    go_wp2
    go_loopw [5] (fun i wr => ∃ k m : Nat, k ≤ n ∧ i = .int .i64 k ∧ Hid (∀ j, j < k → xs.getD j 0 = ys.getD j 0) ∧ wr = w.drewN m) (fun i _ => n - (intOf i).toNat)
    case atStart => exact ⟨0, 0, by omega, rfl, fun j hj => absurd hj (by omega), rfl⟩
    case round =>
      obtain ⟨k, m, hk, rfl, hs, rfl⟩ := hrel
      by_cases hkn : k < n
      · obtain ⟨ad, rfl, _, hcc⟩ := h.out (by omega)
        have hc1 := hcc k (by omega)
        obtain ⟨ad', rfl, _, hcc'⟩ := h'.out (by omega)
        have hc2 := hcc' k (by omega)
        obtain ⟨x, hx⟩ : ∃ x, x = xs.getD k 0 := ⟨_, rfl⟩
        obtain ⟨y, hy⟩ : ∃ y, y = ys.getD k 0 := ⟨_, rfl⟩
        rw [← hx] at hc1
        rw [← hy] at hc2
        have HX := hid hx
        have HY := hid hy
        clear hx hy hcc hcc'
        by_cases hxy : x = y
        · subst hxy
          go_wp2
          go_quiet (fail)
          go_wp2
          go_roundw
          case rel => exact ⟨k + 1, _, by omega, by go_num, hid fun j hj => by
            rcases Nat.lt_or_ge j k with h1 | h1
            · exact hs.out j h1
            · obtain rfl : j = k := by omega
              rw [← HX.out, ← HY.out], rfl⟩
          case measure => simp [intOf]; omega
        · go_wp2
          go_quiet (fail)
          go_wp2
          go_ret
          have : ¬ xs = ys := fun e => hxy (by rw [HX.out, HY.out, e])
          rw [HR.out]
          exact ⟨by simp [this], _, World.drewN_drewN _ _ _⟩
      · obtain rfl : k = n := by omega
        go_wp2
        go_ret
        have : xs = ys := by
          refine List.ext_getElem (by omega) fun i h1 h2 => ?_
          have := hs.out i (by omega)
          simpa [List.getD, h1, h2] using this
        rw [HR.out]
        exact ⟨by simp [this], _, rfl⟩
  · have hd : decide (xs = ys) = false := by
      rw [decide_eq_false_iff_not]
      intro e
      rw [e] at hn
      omega
    rw [hd]
    clear hd
    go_enter Try.func12, Try.ntmps12
    go_wp2
    go_ret
    exact ⟨rfl, 0, rfl⟩

end Go.Proofs.Ytehdclfmkeemgaa
