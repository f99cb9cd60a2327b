/- Whether numbers are a group: the whole words; turned; may. -/
import Derived.Test.YtdobilcfjpmakaaGroup
namespace Go.Proofs.Ytdobilcfjpmakaa
open Go.RowKit
attribute [local irreducible] wpQuiet

theorem grp_short {xs : List Int} (h : ¬ (2 ≤ xs.length ∧ xs.length ≤ 8)) : grpB xs = false := by
  unfold grpB
  simp only [Bool.and_eq_false_iff, decide_eq_false_iff_not]
  omega
theorem grp_mid {xs : List Int} (h : 2 ≤ xs.length ∧ xs.length ≤ 8) : grpB xs = apartB xs := by
  unfold grpB
  rw [decide_eq_true h.1, decide_eq_true h.2]
  rfl

set_option maxHeartbeats 400000 in
theorem refgroup_any {A : Option Addr} {n c B : Nat} {xs : List Int} {w : World} (h : Hid (IntsAt w B A xs)) (hn : xs.length = n) (hc : n ≤ c) (hl : c ≤ maxLen) :
    Calls Try.prog 17 #[.slice A n c] w fun e w' => e = .returned (.bool (grpB xs)) ∧ ∃ m, w' = w.drewN m := by
  have hl' : n ≤ 9223372036854775807 := by unfold maxLen at hl; omega
  by_cases h2 : n < 2
  · rw [grp_short (by omega)]
    go_enter Try.func17, Try.ntmps17
    go_wp2_with fail
    go_ret
    exact ⟨rfl, 0, rfl⟩
  · by_cases h8 : 8 < n
    · rw [grp_short (by omega)]
      go_enter Try.func17, Try.ntmps17
      go_wp2_with fail
      go_ret
      exact ⟨rfl, 0, rfl⟩
    · rw [grp_mid (by omega)]
      go_enter Try.func17, Try.ntmps17
      go_wp2_with fail
      refine (apart_any h hn hc hl).mono ?_
      rintro e w' ⟨rfl, m, rfl⟩
      go_wp2_with fail
      go_ret
      exact ⟨rfl, _, rfl⟩

set_option maxHeartbeats 1000000 in
theorem group_any {A : Option Addr} {n c B : Nat} {xs : List Int} {w : World} (h : Hid (IntsAt w B A xs)) (hn : xs.length = n) (hc : n ≤ c) (hl : c ≤ maxLen) :
    Calls Try.prog 21 #[.slice A n c] w fun e w' => e = .returned (.bool (grpB xs)) ∧ w = w' := by
  have hl' : n ≤ 9223372036854775807 := by unfold maxLen at hl; omega
  by_cases h2 : n < 2
  · rw [grp_short (by omega)]
    go_enter Try.func21, Try.ntmps21
    go_wp2_with fail
    go_ret
    exact ⟨rfl, rfl⟩
  · by_cases h8 : 8 < n
    · rw [grp_short (by omega)]
      go_enter Try.func21, Try.ntmps21
      go_wp2_with fail
      go_ret
      exact ⟨rfl, rfl⟩
    · have hr := hid (grp_mid (xs := xs) (by omega))
      obtain ⟨r, hrr⟩ : ∃ r, r = grpB xs := ⟨_, rfl⟩
      rw [← hrr]
      have HR : Hid (r = apartB xs) := hid (hrr.trans hr.out)
      clear hr hrr
      go_enter Try.func21, Try.ntmps21
      go_wp2
      go_loop [15] (fun i => ∃ k : Nat, k ≤ n ∧ i = .int .i64 k ∧ Hid (∀ j, j < k → okAt xs j = true)) (fun i => n - (intOf i).toNat)
      case atStart => exact ⟨0, by omega, rfl, fun j hj => absurd hj (by omega)⟩
      case round =>
        obtain ⟨k, hk, rfl, hs⟩ := hrel
        by_cases hkn : k < n
        · obtain ⟨ad, rfl, _, hcc⟩ := h.out (by omega)
          have hc1 := hcc k (by omega)
          obtain ⟨y, hy⟩ : ∃ y, y = xs.getD k 0 := ⟨_, rfl⟩
          rw [← hy] at hc1
          have HY := hid hy
          clear hy hcc
          have hT := hid (h.out.take k)
          have hlen : (xs.take k).length = k := by rw [List.length_take]; omega
          have HL := hid hlen
          clear hlen
          by_cases h0 : y < 0
          · go_wp2
            go_ret
            have : okAt xs k = false := by unfold okAt; rw [← HY.out]; simp; omega
            rw [HR.out, apart_no (by omega) this]
            exact ⟨rfl, rfl⟩
          · by_cases h63 : 63 < y
            · go_wp2
              go_ret
              have : okAt xs k = false := by unfold okAt; rw [← HY.out]; simp; omega
              rw [HR.out, apart_no (by omega) this]
              exact ⟨rfl, rfl⟩
            · obtain ⟨z, hz⟩ : ∃ z, z = atI (xs.take k) y := ⟨_, rfl⟩
              have hcall := fun (c' : Nat) => contains_any (w := w) (c := c') y hT HL.out (by omega)
              rw [← hz] at hcall
              have hkc : k ≤ c := by omega
              have HZ := hid hz
              have HC := hid hcall
              clear hz hcall
              by_cases hz0 : 0 ≤ z
              · go_wp2_with fail
                refine (HC.out _).mono ?_
                rintro e w' ⟨rfl, rfl⟩
                go_wp2_with fail
                go_ret
                have : okAt xs k = false := by unfold okAt; rw [← HY.out, ← HZ.out]; simp; omega
                rw [HR.out, apart_no (by omega) this]
                exact ⟨rfl, rfl⟩
              · go_wp2_with fail
                refine (HC.out _).mono ?_
                rintro e w' ⟨rfl, rfl⟩
                go_wp2_with fail
                go_round
                case rel => exact ⟨k + 1, by omega, by go_num, hid fun j hj => by
                  rcases Nat.lt_or_ge j k with h1 | h1
                  · exact hs.out j h1
                  · obtain rfl : j = k := by omega
                    unfold okAt; rw [← HY.out, ← HZ.out]; simp; omega⟩
                case measure => simp [intOf]; omega
        · obtain rfl : k = n := by omega
          go_wp2
          go_ret
          rw [HR.out, apart_yes (by rw [hn]; exact hs.out)]
          exact ⟨rfl, rfl⟩

/-- A turn that is not too great. -/
theorem turned_any {A : Option Addr} {n c : Nat} {a b : Nat} {w : World} (h1 : 1 ≤ n) (h2 : n ≤ 8) (ha : a ≤ 4096) (hb : b ≤ 8) :
    Calls Try.prog 22 #[.slice A n c, .int .i64 a, .int .i64 b] w fun e w' => e = .returned (.int .i64 (((b + a) % n : Nat) : Int)) ∧ w = w' := by
  have hs : IntKind.i64.wrap ((b : Int) + (a : Int)) = (b : Int) + (a : Int) := by rw [IntKind.wrap_i64]; omega
  have ht : ((b : Int) + (a : Int)).tmod (n : Int) = (((b + a) % n : Nat) : Int) := by
    rw [Int.tmod_eq_emod_of_nonneg (by omega), Int.natCast_emod, Int.natCast_add]
  go_enter Try.func22, Try.ntmps22
  go_wp2
  go_ret
  exact ⟨rfl, rfl⟩
def mayB (xs : List Int) (s : Int) : Bool := grpB xs && (decide (0 ≤ s) && decide (s < 4096))
theorem may_any {A : Option Addr} {n c B : Nat} {xs : List Int} {s : Int} {w : World} (h : Hid (IntsAt w B A xs)) (hn : xs.length = n) (hc : n ≤ c) (hl : c ≤ maxLen) :
    Calls Try.prog 23 #[.slice A n c, .int .i64 s] w fun e w' => e = .returned (.bool (mayB xs s)) ∧ ∃ m, w' = w.drewN m := by
  obtain ⟨r, hr⟩ : ∃ r, r = grpB xs := ⟨_, rfl⟩
  have hcall := refgroup_any (w := w) h hn hc hl
  unfold mayB
  rw [← hr] at hcall
  rw [← hr]
  have HC := hid hcall
  clear hr hcall
  cases r
  · go_enter Try.func23, Try.ntmps23
    go_wp2_with fail
    refine HC.out.mono ?_
    rintro e w' ⟨rfl, m, rfl⟩
    go_wp2_with fail
    go_ret
    exact ⟨rfl, _, rfl⟩
  · by_cases h0 : 0 ≤ s
    · go_enter Try.func23, Try.ntmps23
      go_wp2_with fail
      refine HC.out.mono ?_
      rintro e w' ⟨rfl, m, rfl⟩
      go_wp2_with fail
      go_ret
      exact ⟨by simp [h0], _, rfl⟩
    · go_enter Try.func23, Try.ntmps23
      go_wp2_with fail
      refine HC.out.mono ?_
      rintro e w' ⟨rfl, m, rfl⟩
      go_wp2_with fail
      go_ret
      exact ⟨by simp; omega, _, rfl⟩

end Go.Proofs.Ytdobilcfjpmakaa
