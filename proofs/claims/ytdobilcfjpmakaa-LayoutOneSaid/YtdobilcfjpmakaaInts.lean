/- Slices of whole numbers that are read: places in them, whether they are a group. -/
import Derived.Test.YtdobilcfjpmakaaRows
import Derived.Test.YtdobilcfjpmakaaBase
import Derived.WalkMore
import Derived.ScopeJumps
import Derived.BigQuiet
import Derived.Deep.QuietTactic
import Derived.Deep.RegionWith
import Derived.Deep.RegionHeld3
import Derived.Deep.RegionLaw
import Derived.ChangeSlices
namespace Go.Proofs.Ytdobilcfjpmakaa
open Go.RowKit

/-- A slice at A reads the numbers xs, and lies below block B. -/
def IntsAt (w : World) (B : Nat) (A : Option Addr) (xs : List Int) : Prop :=
  0 < xs.length → ∃ ad, A = some ad ∧ ad.block < B ∧ ∀ j, j < xs.length → w.cell? (ad.add j) = some (.int .i64 (xs.getD j 0))
section
variable {w w' : World} {B B' : Nat} {A : Option Addr} {xs : List Int}
theorem IntsAt.keep (h : IntsAt w B A xs) (hk : ∀ k, k < B → w'.heap[k]? = w.heap[k]?) : IntsAt w' B A xs := fun hn => by
  obtain ⟨ad, e, hb, hc⟩ := h hn
  exact ⟨ad, e, hb, fun j hj => (World.cell?_of_block (w := w) (hk _ (by rw [block_add]; exact hb))).trans (hc j hj)⟩
theorem IntsAt.below (h : IntsAt w B A xs) (hb : Below B w w') : IntsAt w' B A xs := h.keep fun k hk => hb.block k hk
theorem IntsAt.more (h : IntsAt w B A xs) (hB : B ≤ B') : IntsAt w B' A xs := fun hn => by
  obtain ⟨ad, e, hb, hc⟩ := h hn
  exact ⟨ad, e, by omega, hc⟩
theorem IntsAt.drewN (h : IntsAt w B A xs) (n : Nat) : IntsAt (w.drewN n) B A xs := h
theorem IntsAt.take (h : IntsAt w B A xs) (n : Nat) : IntsAt w B A (xs.take n) := fun hn => by
  rw [List.length_take] at hn
  obtain ⟨ad, e, hb, hc⟩ := h (by omega)
  refine ⟨ad, e, hb, fun j hj => ?_⟩
  rw [List.length_take] at hj
  rw [hc j (by omega)]
  simp only [List.getD, List.getElem?_take]
  rw [if_pos (by omega)]
theorem IntsAt.holds (h : IntsAt w B A xs) : Holds w B A (xs.map (Value.int .i64)) := fun hn => by
  obtain ⟨ad, e, hb, hc⟩ := h (by simpa using hn)
  refine ⟨ad, e, hb, fun j u hu => ?_⟩
  rw [List.getElem?_map] at hu
  rcases Nat.lt_or_ge j xs.length with hj | hj
  · rw [List.getElem?_eq_getElem hj] at hu
    injection hu with hu
    rw [hc j hj, ← hu]
    simp only [List.getD, List.getElem?_eq_getElem hj, Option.getD_some]
  · rw [List.getElem?_eq_none hj] at hu; cases hu
theorem IntsAt.of_holds (h : Holds w B A (xs.map (Value.int .i64))) : IntsAt w B A xs := fun hn => by
  obtain ⟨ad, e, hb, hc⟩ := h (by simpa using hn)
  refine ⟨ad, e, hb, fun j hj => hc j _ ?_⟩
  rw [List.getElem?_map, List.getElem?_eq_getElem hj]
  simp only [List.getD, List.getElem?_eq_getElem hj, Option.getD_some, Option.map_some]
theorem IntsAt.blk {g : Nat} {t : TypeId} {cs : Array Value} (h : Blk w g t cs) (hx : cs.toList = xs.map (Value.int .i64)) (hg : g < B) : IntsAt w B (some ⟨g, 0, none⟩) xs := fun _ =>
  ⟨_, rfl, hg, fun j hj => by
    rw [add_plain, h.cell, ← Array.getElem?_toList, hx, List.getElem?_map, List.getElem?_eq_getElem hj]
    simp only [List.getD, List.getElem?_eq_getElem hj, Option.getD_some, Option.map_some]⟩
theorem open_row {H : Type} {enc : TypeId × Value → H} {sp : Nat → Bool} {n c : Nat} {d : DataW H} {p : List MemPlace} (h : DataW.Trod enc Try.prog w 0 sp true 22 (.slice A n c) d p) :
    ∃ l : List Int, l.length = n ∧ n ≤ c ∧ c ≤ maxLen ∧ IntsAt w w.heap.size A l := by
  obtain ⟨fuel, hf⟩ := h
  rcases Go.ChangeShapes.open_ints Try.underlying22 Try.underlying3 (by kernel_rfl) hf with ⟨hcs, _⟩ | ⟨a, len, cap, zs, hcs, _, hl, hm, hz, _, hcell, _⟩
  · simp only [Value.cells] at hcs
    have : A = none ∧ n = 0 ∧ c = 0 := by simpa using hcs
    obtain ⟨rfl, rfl, rfl⟩ := this
    exact ⟨[], rfl, by simp, by simp, fun hn => absurd hn (by simp)⟩
  · have hA : A = some a ∧ n = len ∧ c = cap := by simpa [Value.cells] using hcs
    obtain ⟨rfl, rfl, rfl⟩ := hA
    have hzl : n ≤ zs.length := by
      rw [hz]; split <;> omega
    refine ⟨zs.take n, by rw [List.length_take]; omega, hl, hm, ?_⟩
    refine IntsAt.take (fun hn => ⟨a, rfl, ?_, hcell⟩) n
    have := World.block_lt_of_cell? w _ (hcell 0 hn)
    rwa [block_add] at this
end

/-- The first place of a number, or -1. -/
def atI (xs : List Int) (x : Int) : Int := if x ∈ xs then (xs.idxOf x : Int) else -1
theorem atI_found {xs : List Int} {x : Int} {i : Nat} (hi : i < xs.length) (hx : xs.getD i 0 = x) (hn : ∀ j, j < i → xs.getD j 0 ≠ x) : atI xs x = i := by
  have hg : xs[i] = x := by simpa [List.getD, hi] using hx
  have hm : x ∈ xs := hg ▸ List.getElem_mem hi
  unfold atI
  rw [if_pos hm]
  have hlt : xs.idxOf x < xs.length := List.idxOf_lt_length_of_mem hm
  have hat : xs[xs.idxOf x] = x := List.getElem_idxOf hlt
  rcases Nat.lt_trichotomy (xs.idxOf x) i with h | h | h
  · exact absurd (by simp [List.getD, hlt]) (hn _ h)
  · rw [h]
  · have := List.not_of_lt_findIdx (p := fun y => y == x) h
    simp at this
    exact absurd hg this
theorem atI_none {xs : List Int} {x : Int} (hn : ∀ j, j < xs.length → xs.getD j 0 ≠ x) : atI xs x = -1 := by
  unfold atI
  rw [if_neg]
  intro hm
  obtain ⟨i, hi, hx⟩ := List.getElem_of_mem hm
  exact hn i hi (by simpa [List.getD, hi] using hx)

set_option maxHeartbeats 400000 in
theorem idx_any {A : Option Addr} {n c B : Nat} {xs : List Int} {w : World} (x : Int) (h : Hid (IntsAt w B A xs)) (hn : xs.length = n) (hl : n ≤ maxLen) :
    Calls Try.prog 24 #[.slice A n c, .int .i64 x] w fun e w' => e = .returned (.int .i64 (atI xs x)) ∧ w = w' := by
  have hl' : n ≤ 9223372036854775807 := by unfold maxLen at hl; omega
  go_enter Try.func24, Try.ntmps24
  go_wp2
  go_loop [8] (fun i => ∃ k : Nat, k ≤ n ∧ i = .int .i64 k ∧ Hid (∀ j, j < k → xs.getD j 0 ≠ x)) (fun i => n - (intOf i).toNat)
  case atStart => exact ⟨0, by omega, rfl, fun j hj => absurd hj (by omega)⟩
  case round =>
    obtain ⟨k, hk, rfl, hs⟩ := hrel
    by_cases hkn : k < n
    · obtain ⟨ad, rfl, _, hc⟩ := h.out (by omega)
      have hc1 := hc k (by omega)
      obtain ⟨y, hy⟩ : ∃ y, y = xs.getD k 0 := ⟨_, rfl⟩
      rw [← hy] at hc1
      have HY := hid hy
      clear hy hc
      by_cases hxy : x = y
      · subst hxy
        go_wp2
        go_ret
        rw [atI_found (by omega) HY.out.symm hs.out]
        exact ⟨rfl, rfl⟩
      · go_wp2
        go_round
        case rel => exact ⟨k + 1, by omega, by go_num, hid fun j hj => by
          rcases Nat.lt_or_ge j k with h1 | h1
          · exact hs.out j h1
          · obtain rfl : j = k := by omega
            rw [← HY.out]; exact fun h => hxy h.symm⟩
        case measure => simp [intOf]; omega
    · obtain rfl : k = n := by omega
      go_wp2
      go_ret
      rw [atI_none (by rw [hn]; exact hs.out)]
      exact ⟨rfl, rfl⟩

set_option maxHeartbeats 400000 in
theorem at_any {A : Option Addr} {n c B : Nat} {xs : List Int} {w : World} (x : Int) (h : Hid (IntsAt w B A xs)) (hn : xs.length = n) (hl : n ≤ maxLen) :
    Calls Try.prog 19 #[.slice A n c, .int .i64 x] w fun e w' => e = .returned (.int .i64 (atI xs x)) ∧ w = w' := by
  have hl' : n ≤ 9223372036854775807 := by unfold maxLen at hl; omega
  go_enter Try.func19, Try.ntmps19
  go_wp2
  go_loop [5] (fun i => ∃ k : Nat, k ≤ n ∧ i = .int .i64 k ∧ Hid (∀ j, j < k → xs.getD j 0 ≠ x)) (fun i => n - (intOf i).toNat)
  case atStart => exact ⟨0, by omega, rfl, fun j hj => absurd hj (by omega)⟩
  case round =>
    obtain ⟨k, hk, rfl, hs⟩ := hrel
    by_cases hkn : k < n
    · obtain ⟨ad, rfl, _, hc⟩ := h.out (by omega)
      have hc1 := hc k (by omega)
      obtain ⟨y, hy⟩ : ∃ y, y = xs.getD k 0 := ⟨_, rfl⟩
      rw [← hy] at hc1
      have HY := hid hy
      clear hy hc
      by_cases hxy : y = x
      · subst hxy
        go_wp2
        go_ret
        rw [atI_found (by omega) HY.out.symm hs.out]
        exact ⟨rfl, rfl⟩
      · go_wp2
        go_round
        case rel => exact ⟨k + 1, by omega, by go_num, hid fun j hj => by
          rcases Nat.lt_or_ge j k with h1 | h1
          · exact hs.out j h1
          · obtain rfl : j = k := by omega
            rw [← HY.out]; exact hxy⟩
        case measure => simp [intOf]; omega
    · obtain rfl : k = n := by omega
      go_wp2
      go_ret
      rw [atI_none (by rw [hn]; exact hs.out)]
      exact ⟨rfl, rfl⟩

theorem contains_any {A : Option Addr} {n c B : Nat} {xs : List Int} {w : World} (x : Int) (h : Hid (IntsAt w B A xs)) (hn : xs.length = n) (hl : n ≤ maxLen) :
    Calls Try.prog 25 #[.slice A n c, .int .i64 x] w fun e w' => e = .returned (.bool (decide (0 ≤ atI xs x))) ∧ w = w' := by
  go_enter Try.func25, Try.ntmps25
  go_wp2_with fail
  refine (idx_any x h hn hl).mono ?_
  rintro e w' ⟨rfl, rfl⟩
  go_wp2_with fail
  go_ret
  exact ⟨rfl, rfl⟩

end Go.Proofs.Ytdobilcfjpmakaa
