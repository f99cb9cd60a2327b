/- The reference's functions that read a row of bits: Get, Count; Same of rows. -/
import Derived.Test.YtafndflddlieiaaDoorLawsA
import Derived.BigQuiet
namespace Go.Proofs.YtafndflddlieiaaDoor
open Go.RowKit
attribute [local irreducible] wpQuiet
attribute [local go_sem high] run_mxI run_mnI

/-- A row of bits as cells. -/
def bcs (f : Nat → Bool) (n : Nat) : List Value := (List.range n).map fun i => Value.bool (f i)
theorem bcs_length (f : Nat → Bool) (n : Nat) : (bcs f n).length = n := by simp [bcs]
theorem bcs_get (f : Nat → Bool) {n i : Nat} (hi : i < n) : (bcs f n)[i]? = some (.bool (f i)) := by simp [bcs, hi]
theorem bool_at {w : World} {B n : Nat} {A : Option Addr} {f : Nat → Bool} (h : Holds w B A (bcs f n)) {i : Nat} (hi : i < n) :
    ∃ ad, A = some ad ∧ w.cell? (ad.add i) = some (.bool (f i)) := by
  obtain ⟨ad, rfl, hb, hc⟩ := h (by rw [bcs_length]; omega)
  exact ⟨ad, rfl, hc _ _ (bcs_get f hi)⟩
def cntF (f : Nat → Bool) : Nat → Nat
  | 0 => 0
  | k + 1 => cntF f k + if f k then 1 else 0
theorem cntF_le (f : Nat → Bool) (k : Nat) : cntF f k ≤ k := by
  induction k with
  | zero => exact Nat.le_refl _
  | succ k ih => simp only [cntF]; split <;> omega

section
variable {w : World} {B n c : Nat} {A : Option Addr} {f : Nat → Bool}
set_option maxHeartbeats 400000 in
theorem rcount_any (h : Hid (Holds w B A (bcs f n))) (hn : n ≤ 4096) :
    Calls Tryd.prog 23 #[.slice A n c] w fun e w' => e = .returned (.int .i64 (cntF f n : Nat)) ∧ w = w' := by
  go_enter Tryd.func23, Tryd.ntmps23
  go_wp2_with fail
  go_loopw [3, 4] (fun v3 v4 wr => wr = w ∧ ∃ k : Nat, k ≤ n ∧ v3 = .int .i64 (cntF f k : Nat) ∧ v4 = .int .i64 k) (fun _ v4 _ => n - (intOf v4).toNat)
  case atStart => exact ⟨rfl, 0, Nat.zero_le _, rfl, rfl⟩
  case round =>
    obtain ⟨rfl, k, hk, rfl, rfl⟩ := hrel
    have hle := cntF_le f k
    by_cases hkn : k < n
    · obtain ⟨ad, rfl, e1⟩ := bool_at h.out hkn
      have hst : cntF f (k + 1) = cntF f k + if f k then 1 else 0 := rfl
      obtain ⟨s, hs⟩ : ∃ s, s = cntF f k := ⟨_, rfl⟩
      rw [← hs] at hst hle ⊢
      clear hs
      have HST := hid hst
      clear hst
      cases hf : f k with
      | true =>
        rw [hf] at e1
        have HF := hid hf
        clear hf
        go_wp2_with fail
        go_roundw
        case rel =>
          have := HST.out
          rw [HF.out] at this
          exact ⟨trivial, k + 1, by omega, by rw [this]; go_num, by go_num⟩
        case measure => simp [intOf]; omega
      | false =>
        rw [hf] at e1
        have HF := hid hf
        clear hf
        go_wp2_with fail
        go_roundw
        case rel =>
          have := HST.out
          rw [HF.out] at this
          exact ⟨trivial, k + 1, by omega, by rw [this]; rfl, by go_num⟩
        case measure => simp [intOf]; omega
    · obtain rfl : k = n := by omega
      go_wp2_with fail
      go_ret
      exact ⟨rfl, rfl⟩
theorem rget_any (h : Hid (Holds w B A (bcs f n))) (x : Int) :
    Calls Tryd.prog 21 #[.slice A n c, .int .i64 x] w fun e w' => e = .returned (.bool (hasB n x && f x.toNat)) ∧ w = w' := by
  by_cases h0 : 0 ≤ x
  · obtain ⟨y, rfl⟩ := Int.eq_ofNat_of_zero_le h0
    by_cases h1 : y < n
    · obtain ⟨ad, rfl, e1⟩ := bool_at h.out h1
      have e2 : (hasB n (y : Int) && f (y : Int).toNat) = f y := by simp [hasB, h1]
      rw [e2]
      clear e2
      go_enter Tryd.func21, Tryd.ntmps21
      go_wp2_with fail
      go_ret
      exact ⟨rfl, rfl⟩
    · have e2 : (hasB n (y : Int) && f (y : Int).toNat) = false := by simp [hasB, h1]
      rw [e2]
      clear e2
      go_enter Tryd.func21, Tryd.ntmps21
      go_wp2_with fail
      go_ret
      exact ⟨rfl, rfl⟩
  · have e2 : (hasB n x && f x.toNat) = false := by simp [hasB, h0]
    rw [e2]
    clear e2
    go_enter Tryd.func21, Tryd.ntmps21
    go_wp2_with fail
    go_ret
    exact ⟨rfl, rfl⟩
set_option maxHeartbeats 400000 in
theorem same_eq {A1 A2 : Option Addr} {c1 c2 B1 B2 : Nat} {L : List (Nat × Nat)} (h1 : Hid (Holds w B1 A1 (rcs L))) (h2 : Hid (Holds w B2 A2 (rcs L))) (hL : L.length ≤ 10000) :
    Calls Tryd.prog 25 #[.slice A1 L.length c1, .slice A2 L.length c2] w fun e w' => e = .returned (.bool true) ∧ ∃ q, w' = w.drewN q := by
  go_enter Tryd.func25, Tryd.ntmps25
  go_wp2_with fail
  go_loopw [5] (fun v5 wr => ∃ k : Nat, k ≤ L.length ∧ v5 = .int .i64 k ∧ Hid (∃ q, wr = w.drewN q)) (fun v5 _ => L.length - (intOf v5).toNat)
  case atStart => exact ⟨0, Nat.zero_le _, rfl, 0, rfl⟩
  case round =>
    obtain ⟨k, hk, rfl, hB⟩ := hrel
    by_cases hkn : k < L.length
    · obtain ⟨r, hr⟩ : ∃ r, L[k]? = some r := ⟨_, List.getElem?_eq_getElem hkn⟩
      have H1 := hid (show Holds wr B1 A1 (rcs L) by obtain ⟨q, e⟩ := hB.out; rw [e]; exact h1.out.drewN q)
      have H2 := hid (show Holds wr B2 A2 (rcs L) by obtain ⟨q, e⟩ := hB.out; rw [e]; exact h2.out.drewN q)
      obtain ⟨a1, rfl, x0, x1⟩ := row_cells H1.out hr
      obtain ⟨a2, rfl, y0, y1⟩ := row_cells H2.out hr
      go_wp2_with fail
      go_quiet (fail)
      have hB' := hid (show ∃ q', wr.drewN nq = w.drewN q' by obtain ⟨q, e⟩ := hB.out; rw [e]; exact ⟨q + nq, by rw [World.drewN_drewN]⟩)
      go_wp2_with fail
      go_roundw
      case rel => exact ⟨k + 1, by omega, by go_num, hB'⟩
      case measure => simp [intOf]; omega
    · obtain rfl : k = L.length := by omega
      go_wp2_with fail
      go_ret
      exact ⟨rfl, hB.out⟩
end
end Go.Proofs.YtafndflddlieiaaDoor
