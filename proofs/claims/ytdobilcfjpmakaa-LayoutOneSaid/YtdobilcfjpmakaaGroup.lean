/- Whether numbers are a group: the program's word and the document's. -/
import Derived.Test.YtdobilcfjpmakaaInts
namespace Go.Proofs.Ytdobilcfjpmakaa
open Go.RowKit
attribute [local irreducible] wpQuiet

def okAt (xs : List Int) (i : Nat) : Bool := decide (0 ≤ xs.getD i 0) && decide (xs.getD i 0 ≤ 63) && decide (atI (xs.take i) (xs.getD i 0) < 0)
def apartB (xs : List Int) : Bool := (List.range xs.length).all (okAt xs)
def grpB (xs : List Int) : Bool := decide (2 ≤ xs.length) && (decide (xs.length ≤ 8) && apartB xs)
theorem apart_yes {xs : List Int} (h : ∀ j, j < xs.length → okAt xs j = true) : apartB xs = true :=
  List.all_eq_true.2 fun j hj => h j (List.mem_range.1 hj)
theorem apart_no {xs : List Int} {i : Nat} (hi : i < xs.length) (h : okAt xs i = false) : apartB xs = false :=
  List.all_eq_false.2 ⟨i, List.mem_range.2 hi, by simp [h]⟩
theorem at_q {A : Option Addr} {n c B : Nat} {xs : List Int} {w : World} (x : Int) (h : Hid (IntsAt w B A xs)) (hn : xs.length = n) (hl : n ≤ maxLen) (m k : Nat) :
    Calls Try.prog 19 #[.slice A n c, .int .i64 x] (w.drewN (m + k)) fun e w'' => e = .returned (.int .i64 (atI xs x)) ∧ ∃ j, w'' = w.drewN (m + j) :=
  (at_any x (hid (h.out.drewN _)) hn hl).mono fun _ _ ⟨he, hw⟩ => ⟨he, k, hw.symm⟩

set_option maxHeartbeats 1000000 in
theorem apart_any {A : Option Addr} {n c B : Nat} {xs : List Int} {w : World} (h : Hid (IntsAt w B A xs)) (hn : xs.length = n) (hc : n ≤ c) (hl : c ≤ maxLen) :
    Calls Try.prog 18 #[.slice A n c] w fun e w' => e = .returned (.bool (apartB xs)) ∧ ∃ m, w' = w.drewN m := by
  have hl' : n ≤ 9223372036854775807 := by unfold maxLen at hl; omega
  go_enter Try.func18, Try.ntmps18
  go_wp2
  go_loopw [3] (fun i wr => ∃ k m : Nat, k ≤ n ∧ i = .int .i64 k ∧ Hid (∀ j, j < k → okAt xs j = true) ∧ wr = w.drewN m) (fun i _ => n - (intOf i).toNat)
  case atStart => exact ⟨0, 0, by omega, rfl, fun j hj => absurd hj (by omega), rfl⟩
  case round =>
    obtain ⟨k, m, hk, rfl, hs, rfl⟩ := hrel
    by_cases hkn : k < n
    · obtain ⟨ad, rfl, _, hcc⟩ := h.out (by omega)
      have hc1 := hcc k (by omega)
      obtain ⟨y, hy⟩ : ∃ y, y = xs.getD k 0 := ⟨_, rfl⟩
      rw [← hy] at hc1
      have HY := hid hy
      clear hy hcc
      have hT := hid (h.out.take k)
      have hlen : (xs.take k).length = k := by rw [List.length_take]; omega
      have HL := hid hlen
      clear hlen
      by_cases h0 : y < 0
      · go_wp2
        go_quiet (fail)
        go_wp2
        go_ret
        have : okAt xs k = false := by unfold okAt; rw [← HY.out]; simp; omega
        rw [apart_no (by omega) this]
        exact ⟨rfl, _, World.drewN_drewN _ _ _⟩
      · by_cases h63 : 63 < y
        · go_wp2
          go_quiet (fail)
          go_wp2
          go_ret
          have : okAt xs k = false := by unfold okAt; rw [← HY.out]; simp; omega
          rw [apart_no (by omega) this]
          exact ⟨rfl, _, World.drewN_drewN _ _ _⟩
        · obtain ⟨z, hz⟩ : ∃ z, z = atI (xs.take k) y := ⟨_, rfl⟩
          have hcall := fun (c' : Nat) q => at_q (w := w) (c := c') y hT HL.out (by omega) m q
          have hkc : k ≤ c := by omega
          rw [← hz] at hcall
          have HZ := hid hz
          have HC := hid hcall
          clear hz hcall
          by_cases hz0 : 0 ≤ z
          · go_wp2
            go_quiet ((go_at_call 19; exact HC.out _ _))
            go_wp2
            go_ret
            have : okAt xs k = false := by unfold okAt; rw [← HY.out, ← HZ.out]; simp; omega
            rw [apart_no (by omega) this]
            exact ⟨rfl, _, World.drewN_drewN _ _ _⟩
          · go_wp2
            go_quiet ((go_at_call 19; exact HC.out _ _))
            go_wp2
            go_roundw
            case rel => exact ⟨k + 1, _, by omega, by go_num, hid fun j hj => by
              rcases Nat.lt_or_ge j k with h1 | h1
              · exact hs.out j h1
              · obtain rfl : j = k := by omega
                unfold okAt; rw [← HY.out, ← HZ.out]; simp; omega, rfl⟩
            case measure => simp [intOf]; omega
    · obtain rfl : k = n := by omega
      go_wp2
      go_ret
      rw [apart_yes (by rw [hn]; exact hs.out)]
      exact ⟨rfl, _, rfl⟩

end Go.Proofs.Ytdobilcfjpmakaa
