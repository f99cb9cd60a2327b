/- next: the first place from one on that is so. -/
import Derived.Test.YtafndflddlieiaaDoorTz
namespace Go.Proofs.YtafndflddlieiaaDoor
open Go.RowKit
attribute [local irreducible] wpQuiet
attribute [local go_sem high] run_mxI run_mnI

/-! ### plain words -/
def seekF (p : Nat → Bool) : Nat → Nat → Nat
  | 0, a => a
  | k + 1, a => if p a then a else seekF p k (a + 1)
/-- The first place from a on (below n) where p holds; n, if there is none. -/
def nextF (p : Nat → Bool) (n a : Nat) : Nat := seekF p (n - a) a
theorem seekF_spec (p : Nat → Bool) (k a : Nat) : a ≤ seekF p k a ∧ seekF p k a ≤ a + k ∧ (∀ y, a ≤ y → y < seekF p k a → p y = false) ∧ (seekF p k a < a + k → p (seekF p k a) = true) := by
  induction k generalizing a with
  | zero => exact ⟨Nat.le_refl _, Nat.le_refl _, fun y h1 h2 => by simp only [seekF] at h2; omega, fun h => by simp only [seekF] at h; omega⟩
  | succ k ih =>
    simp only [seekF]
    by_cases h : p a = true
    · rw [if_pos h]
      exact ⟨Nat.le_refl _, by omega, fun y h1 h2 => by omega, fun _ => h⟩
    · rw [if_neg h]
      obtain ⟨h1, h2, h3, h4⟩ := ih (a + 1)
      refine ⟨by omega, by omega, fun y hy1 hy2 => ?_, fun hl => h4 (by omega)⟩
      rcases Nat.lt_or_ge a y with hy | hy
      · exact h3 y hy hy2
      · obtain rfl : y = a := by omega
        simpa using h
theorem nextF_spec (p : Nat → Bool) {n a : Nat} (ha : a ≤ n) : a ≤ nextF p n a ∧ nextF p n a ≤ n ∧ (∀ y, a ≤ y → y < nextF p n a → p y = false) ∧ (nextF p n a < n → p (nextF p n a) = true) := by
  obtain ⟨h1, h2, h3, h4⟩ := seekF_spec p (n - a) a
  exact ⟨h1, by unfold nextF; omega, h3, fun h => h4 (by unfold nextF at h; omega)⟩
theorem nextF_eq {p : Nat → Bool} {n a r : Nat} (ha : a ≤ r) (hr : r ≤ n) (h1 : ∀ y, a ≤ y → y < r → p y = false) (h2 : r < n → p r = true) : nextF p n a = r := by
  obtain ⟨g1, g2, g3, g4⟩ := nextF_spec p (n := n) (a := a) (by omega)
  rcases Nat.lt_trichotomy (nextF p n a) r with h | h | h
  · have := g4 (by omega)
    rw [h1 _ g1 h] at this
    cases this
  · exact h
  · have := h2 (by omega)
    rw [g3 r ha h] at this
    cases this

/-- Is the bit so? -/
def isP (W : Nat → BitVec 64) (on : Bool) (y : Nat) : Bool := bitW W y == on
def wordP (W : Nat → BitVec 64) (on : Bool) (j : Nat) : BitVec 64 := if on then W j else ~~~(W j)
theorem wordP_get (W : Nat → BitVec 64) (on : Bool) {y j r : Nat} (hr : r < 64) (hy : y = 64 * j + r) : (wordP W on j).getLsbD r = isP W on y := by
  unfold wordP isP bitW
  rw [show y / 64 = j by omega, show y % 64 = r by omega]
  cases on
  · simp [hr]
  · simp
theorem U_shr (x : BitVec 64) (k : Nat) : U x / 2 ^ k = U (x >>> k) := by
  rw [← U_div x k, Int.natCast_pow]
  rfl
theorem U_not (x : BitVec 64) : bits .xor .u64 IntKind.u64.max (U x) = U (~~~x) := by
  have h : IntKind.u64.max = U 18446744073709551615#64 := by decide
  rw [h]
  unfold U
  rw [u64_xor_nat _ _ (BitVec.isLt _) x.isLt, ← BitVec.toNat_xor]
  congr 2
theorem U_not2 (x : BitVec 64) : bits .xor .u64 (if IntKind.u64.signed = true then -1 else IntKind.u64.max) (U x) = U (~~~x) := U_not x
theorem U_zero {x : BitVec 64} (h : x = 0#64) : U x = 0 := by rw [h]; rfl
theorem U_ne {x : BitVec 64} (h : x ≠ 0#64) : U x ≠ 0 := fun e => h (U_inj.1 (e.trans (by rfl)))
attribute [local go_sem] U_shr U_not
attribute [local go_sem high] U_not2

section
variable {b n : Nat} {W : Nat → BitVec 64} {w : World}
set_option maxHeartbeats 1000000 in
theorem next_any (h : Hid (MapIs w b n W)) (hT : Hid (TabIs w)) (hn : n ≤ 4096) {a0 : Nat} (ha : a0 ≤ n) (on : Bool) :
    Calls Tryd.prog 34 #[.pointer (some ⟨b, 0, none⟩), .int .i64 a0, .bool on] w fun e w' => e = .returned (.int .i64 (nextF (isP W on) n a0 : Nat)) ∧ ∃ k, w' = w.drewN k := by
  have e0 := h.out.e0
  obtain ⟨res, hres⟩ : ∃ res, res = nextF (isP W on) n a0 := ⟨_, rfl⟩
  rw [← hres]
  have HR := hid hres
  clear hres
  go_enter Tryd.func34, Tryd.ntmps34
  go_wp2_with fail
  go_loop [1, 7] (fun v _ => ∃ a : Nat, a0 ≤ a ∧ a ≤ n + 64 ∧ v = .int .i64 a ∧ Hid (∀ y, a0 ≤ y → y < a → y < n → isP W on y = false)) (fun v _ => n + 64 - (intOf v).toNat)
  case atStart => exact ⟨a0, by omega, by omega, rfl, fun y h1 h2 => by omega⟩
  case round =>
    obtain ⟨a, ha1, ha2, rfl, hp⟩ := hrel
    by_cases han : a < n
    · have e1 := h.out.e1 (j := a / 64) (by omega)
      have hr : a % 64 < 64 := Nat.mod_lt _ (by omega)
      obtain ⟨x, hx⟩ : ∃ x, x = wordP W on (a / 64) >>> (a % 64) := ⟨_, rfl⟩
      have hbit : Hid (∀ i, x.getLsbD i = (decide (a % 64 + i < 64) && isP W on (a + i))) := hid fun i => by
        rw [hx, BitVec.getLsbD_ushiftRight]
        by_cases hi : a % 64 + i < 64
        · rw [wordP_get W on (y := a + i) hi (by omega)]; simp [hi]
        · rw [BitVec.getLsbD_of_ge _ _ (by omega)]; simp [hi]
      by_cases hx0 : x = 0#64
      · have hz := U_zero hx0
        have hnext : Hid (∀ y, a0 ≤ y → y < a + (64 - a % 64) → y < n → isP W on y = false) := hid fun y h1 h2 h3 => by
          rcases Nat.lt_or_ge y a with hy | hy
          · exact hp.out y h1 hy h3
          · have hb := hbit.out (y - a)
            rw [hx0, show a + (y - a) = y by omega] at hb
            simpa [show a % 64 + (y - a) < 64 by omega] using hb.symm
        have HX := hid hx
        cases on with
        | true =>
          simp only [wordP, ↓reduceIte] at hx
          rw [hx] at hz
          have hzb : (U (W (a / 64) >>> (a % 64)) != 0) = false := by rw [hz]; rfl
          clear hx hx0 hz
          go_wp2_with fail
          go_round
          case rel => exact ⟨a + (64 - a % 64), by omega, by omega, by congr 1; omega, hnext⟩
          case measure => simp [intOf]; omega
        | false =>
          simp only [wordP, Bool.false_eq_true, ↓reduceIte] at hx
          rw [hx] at hz
          have hzb : (U (~~~(W (a / 64)) >>> (a % 64)) != 0) = false := by rw [hz]; rfl
          clear hx hx0 hz
          go_wp2_with fail
          go_round
          case rel => exact ⟨a + (64 - a % 64), by omega, by omega, by congr 1; omega, hnext⟩
          case measure => simp [intOf]; omega
      · have hz := U_ne hx0
        obtain ⟨t, hL⟩ := least_ex hx0
        have hb := hbit.out t
        rw [hL.2.1] at hb
        have hb2 : a % 64 + t < 64 ∧ isP W on (a + t) = true := by simpa using hb.symm
        have hRE : mnI ((a : Int) + (t : Int)) (n : Int) = (res : Int) := by
          have hm : mnI ((a : Int) + (t : Int)) (n : Int) = ((min (a + t) n : Nat) : Int) := by unfold mnI; split <;> omega
          rw [hm, HR.out]
          congr 1
          refine (nextF_eq (r := min (a + t) n) (by omega) (Nat.min_le_right _ _) (fun y h1 h2 => ?_) (fun h => ?_)).symm
          · rcases Nat.lt_or_ge y a with hy | hy
            · exact hp.out y h1 hy (by omega)
            · have hb := hbit.out (y - a)
              rw [hL.2.2 _ (by omega), show a + (y - a) = y by omega] at hb
              simpa [show a % 64 + (y - a) < 64 by omega] using hb.symm
          · rw [show min (a + t) n = a + t by omega]
            exact hb2.2
        have HL := hid hL
        have HRE := hid hRE
        have ht64 := hL.1
        have hwr : IntKind.i64.wrap ((a : Int) + (t : Int)) = (a : Int) + (t : Int) := by rw [IntKind.wrap_i64]; omega
        clear hL hb hb2 hRE
        cases on with
        | true =>
          simp only [wordP, ↓reduceIte] at hx
          rw [hx] at hz HL
          have hzb : (U (W (a / 64) >>> (a % 64)) != 0) = true := by simpa using hz
          clear hx hx0 hz
          go_wp2_with fail
          go_region_with (go_at_call 39; refine (tz_any HL.out (TabIs.keep hT.out (by rfl))).mono ?_; rintro e w' ⟨rfl, rfl⟩)
          all_goals go_wp2_with fail
          all_goals go_ret
          all_goals exact ⟨(by show Ending.returned (.int .i64 (mnI ((a : Int) + (t : Int)) (n : Int))) = _; rw [HRE.out]), 1, rfl⟩
        | false =>
          simp only [wordP, Bool.false_eq_true, ↓reduceIte] at hx
          rw [hx] at hz HL
          have hzb : (U (~~~(W (a / 64)) >>> (a % 64)) != 0) = true := by simpa using hz
          clear hx hx0 hz
          go_wp2_with fail
          go_region_with (go_at_call 39; refine (tz_any HL.out (TabIs.keep hT.out (by rfl))).mono ?_; rintro e w' ⟨rfl, rfl⟩)
          all_goals go_wp2_with fail
          all_goals go_ret
          all_goals exact ⟨(by show Ending.returned (.int .i64 (mnI ((a : Int) + (t : Int)) (n : Int))) = _; rw [HRE.out]), 1, rfl⟩
    · go_wp2_with fail
      go_ret
      rw [HR.out, nextF_eq (r := n) (by omega) (Nat.le_refl _) (fun y h1 h2 => hp.out y h1 (by omega) h2) (fun h => absurd h (by omega))]
      exact ⟨rfl, 0, rfl⟩
end
end Go.Proofs.YtafndflddlieiaaDoor
