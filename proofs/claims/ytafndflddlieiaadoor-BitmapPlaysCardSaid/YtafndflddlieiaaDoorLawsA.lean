/- BitmapRuns: the rows of both kinds, in turn, are the whole map: the walk of the law, for every input. -/
import Derived.Test.YtafndflddlieiaaDoorDeeds
namespace Go.Proofs.YtafndflddlieiaaDoor
open Go.RowKit
attribute [local irreducible] wpQuiet
attribute [local go_sem high] run_mxI run_mnI

theorem mn_nat (s : Int) : ∃ K : Nat, mnI (mxI s 0) 4096 = (K : Int) ∧ K ≤ 4096 := by
  refine ⟨(mnI (mxI s 0) 4096).toNat, ?_, ?_⟩ <;> unfold mnI mxI <;> split <;> split <;> omega
def setI (W : Nat → BitVec 64) (n : Nat) (x : Int) (on : Bool) : Nat → BitVec 64 := if hasB n x = true then setW W x.toNat on else W
theorem set_any {b n : Nat} {W : Nat → BitVec 64} {w : World} (h : Hid (MapIs w b n W)) (hn : n ≤ 4096) (x : Int) (on : Bool) :
    Calls Tryd.prog 10 #[.pointer (some ⟨b, 0, none⟩), .int .i64 x, .bool on] w fun e w' => e = .returned (.bool (hasB n x)) ∧ MapIs w' b n (setI W n x on) ∧ Only (fun k => k = b) w w' := by
  cases hh : hasB n x with
  | false =>
    refine (set_no h on hh).mono ?_
    rintro e w' ⟨rfl, rfl⟩
    refine ⟨rfl, ?_, Only.refl _ _⟩
    unfold setI
    rw [if_neg (by rw [hh]; decide)]
    exact h.out
  | true =>
    have ha : 0 ≤ x ∧ x < n := by simpa [hasB] using hh
    obtain ⟨y, rfl⟩ := Int.eq_ofNat_of_zero_le ha.1
    refine (set_yes h on (by omega) hn).mono ?_
    rintro e w' ⟨rfl, hm, ho⟩
    refine ⟨rfl, ?_, ho⟩
    unfold setI
    rw [if_pos hh]
    exact hm

/-! ### the two kinds of rows, in turn -/
theorem nextF_self {p : Nat → Bool} {n a : Nat} (ha : a ≤ n) (h : a < n → p a = true) : nextF p n a = a :=
  nextF_eq (Nat.le_refl _) ha (fun y h1 h2 => by omega) h
theorem rowsF_end {p q : Nat → Bool} (hq : ∀ y, q y = !p y) (n : Nat) : rowsF p q n n = [] := by
  rw [rowsF_step hq (Nat.le_refl _), if_neg (by have := (nextF_spec p (Nat.le_refl n)).1; omega)]
/-- A row begins here: it is the first of its kind; the other kind's rows are those from its end on. -/
theorem rowsF_here {p q : Nat → Bool} (hq : ∀ y, q y = !p y) {n a : Nat} (ha : a < n) (hp : p a = true) :
    a < nextF q n a ∧ nextF q n a ≤ n ∧ rowsF p q n a = (a, nextF q n a - a) :: rowsF p q n (nextF q n a) ∧ rowsF q p n a = rowsF q p n (nextF q n a) := by
  have hs := nextF_self (p := p) (Nat.le_of_lt ha) (fun _ => hp)
  obtain ⟨g1, g2, g3⟩ := row_gt hq (Nat.le_of_lt ha) (by rw [hs]; exact ha)
  rw [hs] at g2 g3
  have hp2 : ∀ y, p y = !q y := fun y => by rw [hq]; simp
  refine ⟨g2, g3, ?_, ?_⟩
  · rw [rowsF_step hq (Nat.le_of_lt ha), hs, if_pos ha]
  · rw [rowsF_step hp2 (Nat.le_of_lt ha), rowsF_step hp2 g3]
    have : nextF q n (nextF q n a) = nextF q n a := nextF_self g3 (fun h => (nextF_spec q (Nat.le_of_lt ha)).2.2.2 h)
    rw [this]
theorem row_cells {w : World} {B : Nat} {A : Option Addr} {L : List (Nat × Nat)} (h : Holds w B A (rcs L)) {i : Nat} {r : Nat × Nat} (hr : L[i]? = some r) :
    ∃ ad, A = some ad ∧ w.cell? (ad.add (i * 2)) = some (.int .i64 r.1) ∧ w.cell? ⟨(ad.add (i * 2)).block, (ad.add (i * 2)).off + 1, none⟩ = some (.int .i64 r.2) := by
  have hg : (rcs L)[i * 2]? = some (.int .i64 r.1) ∧ (rcs L)[i * 2 + 1]? = some (.int .i64 r.2) := by
    clear h
    induction L generalizing i with
    | nil => simp at hr
    | cons a L ih =>
      have hc : rcs (a :: L) = [Value.int .i64 a.1, Value.int .i64 a.2] ++ rcs L := rfl
      cases i with
      | zero =>
        simp only [List.getElem?_cons_zero, Option.some.injEq] at hr
        subst hr
        exact ⟨rfl, rfl⟩
      | succ i =>
        simp only [List.getElem?_cons_succ] at hr
        obtain ⟨h0, h1⟩ := ih hr
        rw [hc]
        refine ⟨?_, ?_⟩
        · rw [List.getElem?_append_right (by simp; omega)]
          simpa [show (i + 1) * 2 - 2 = i * 2 by omega] using h0
        · rw [List.getElem?_append_right (by simp; omega)]
          simpa [show (i + 1) * 2 + 1 - 2 = i * 2 + 1 by omega] using h1
  have hi : i < L.length := (List.getElem?_eq_some_iff.1 hr).1
  obtain ⟨ad, rfl, hb, hc⟩ := h (by rw [rcs_length]; omega)
  refine ⟨ad, rfl, hc _ _ hg.1, ?_⟩
  have := hc _ _ hg.2
  rw [← Go.Deep.add_add, add_fld ad (i * 2) 1 (by omega)] at this
  exact this

theorem drop_cons {α : Type _} {L T : List α} {i : Nat} {r : α} (h : L.drop i = r :: T) : i < L.length ∧ L[i]? = some r ∧ L.drop (i + 1) = T := by
  have hl : i < L.length := by
    rcases Nat.lt_or_ge i L.length with h1 | h1
    · exact h1
    · rw [List.drop_eq_nil_of_le h1] at h
      exact absurd h (by simp)
  refine ⟨hl, ?_, ?_⟩
  · have := congrArg List.head? h
    rwa [List.head?_drop] at this
  · have := congrArg List.tail h
    simpa using this
theorem drop_nil_ {α : Type _} {L : List α} {i : Nat} (hi : i ≤ L.length) (h : L.drop i = []) : i = L.length := by
  have := List.drop_eq_nil_iff.1 h
  omega
theorem rows_ne {p q : Nat → Bool} (hq : ∀ y, q y = !p y) {n a i : Nat} (ha : a ≤ n) (hp : p a = false) {L : List (Nat × Nat)} (hL : L.drop i = rowsF p q n a) (hi : i < L.length) :
    ∃ r1 r2 : Nat, L[i]? = some (r1, r2) ∧ r1 ≠ a := by
  rw [rowsF_step hq ha] at hL
  split at hL
  · next hlt =>
    obtain ⟨-, h2, -⟩ := drop_cons hL
    refine ⟨_, _, h2, fun e => ?_⟩
    have := (nextF_spec p ha).2.2.2 hlt
    rw [e, hp] at this
    exact absurd this (by decide)
  · have := drop_nil_ (Nat.le_of_lt hi) hL
    omega
theorem rows_le {p q : Nat → Bool} {n a : Nat} (ha : a ≤ n) (hq : ∀ y, q y = !p y) {L : List (Nat × Nat)} (hL : L = rowsF p q n a) : L.length ≤ n := by
  have key : ∀ (k a : Nat), a ≤ n → n - a ≤ k → (rowsF p q n a).length ≤ n - a := by
    intro k
    induction k with
    | zero =>
      intro a ha hk
      obtain rfl : a = n := by omega
      rw [rowsF_end hq]
      simp
    | succ k ih =>
      intro a ha hk
      rw [rowsF_step hq ha]
      split
      · next hlt =>
        have g := row_gt hq ha hlt
        have := ih _ g.2.2 (by omega)
        simp only [List.length_cons]
        omega
      · simp
  have := key _ a ha (Nat.le_refl _)
  rw [hL]
  omega
theorem runs_p {b n : Nat} {W : Nat → BitVec 64} {w : World} (h : Hid (MapIs w b n W)) (hT : Hid (TabIs w)) (hn : n ≤ 4096) (on : Bool) {p q : Nat → Bool} {L : List (Nat × Nat)} (hp : p = isP W on) (hq : q = isP W (!on)) (hL : L = rowsF p q n 0) :
    Calls Tryd.prog 26 #[.pointer (some ⟨b, 0, none⟩), .bool on] w fun e w' => ∃ A c, e = .returned (.slice A L.length c) ∧ Holds w' w'.heap.size A (rcs L) ∧ Below w.heap.size w w' := by
  subst hp hq hL
  refine (runs_any h hT hn on).mono ?_
  rintro e w' ⟨A, c, rfl, h1, -, h3⟩
  exact ⟨A, c, rfl, h1, h3⟩

set_option maxRecDepth 100000 in
set_option maxHeartbeats 3000000 in
theorem runs_walk (m : Int) {A : Option Addr} {len cap : Nat} {w : World} (hT : Hid (TabIs w)) (h : ∃ l : List Deed, l.length = len ∧ len ≤ maxLen ∧ DeedsAt w w.heap.size A l) :
    Calls Tryd.prog 6 #[.int .i64 m, .slice A len cap] w fun e w' => e = .returned (.bool true) ∧ Below w.heap.size w w' := by
  obtain ⟨l, rfl, hmax, hd⟩ := h
  unfold maxLen at hmax
  have HD := hid hd
  clear hd
  have ht0 := hT.out.lt
  obtain ⟨n, hN, hn⟩ := mn_nat m
  have HN := hid hN
  clear hN
  by_cases hl : l.length ≤ 60
  · go_enter Tryd.func6, Tryd.ntmps6
    go_wp2_with fail
    refine (new_any HN.out).mono ?_
    rintro e w1 ⟨rfl, hm, hb⟩
    have M1 := hid hm
    have B1 := hid hb
    clear hm hb
    go_wp2_with fail
    go_loopw [6] (fun i wr => ∃ (k : Nat) (W : Nat → BitVec 64), k ≤ l.length ∧ i = .int .i64 k ∧ Hid (MapIs wr w.heap.size n W ∧ Below w.heap.size w wr)) (fun i _ => l.length - (intOf i).toNat)
    case atStart => exact ⟨0, _, by omega, rfl, M1.out, B1.out⟩
    case round =>
      obtain ⟨k, W, hk, rfl, hI⟩ := hrel
      by_cases hkl : k < l.length
      · obtain ⟨ad, rfl, hb, hc⟩ := (HD.out.below hI.out.2).2 (by omega)
        obtain ⟨g0, g1, _⟩ := hc k hkl
        obtain ⟨d, hd⟩ : ∃ d, d = l.getD k default := ⟨_, rfl⟩
        rw [← hd] at g0 g1
        clear hc hd hb
        go_wp2_with fail
        go_region_with (go_at_call 10; refine (set_any (hid (Blk.drewN hI.out.1 _)) hn d.n _).mono ?_; rintro e w' ⟨rfl, hm, ho⟩; have HM := hid hm; have HB := hid ((below_drewN hI.out.2 1).trans (ho.below (by have := Blk.lt hI.out.1; show w.heap.size ≤ wr.heap.size; omega) (fun k hk e => by omega))); clear hm ho)
        all_goals go_wp2_with fail
        all_goals go_roundw
        all_goals first
          | exact ⟨k + 1, _, by omega, by go_num, hid ⟨HM.out, HB.out⟩⟩
          | (simp [intOf]; omega)
      · obtain rfl : k = l.length := by omega
        have hBw := Blk.lt hI.out.1
        have hT0 := hid (hT.out.below hI.out.2 ht0)
        obtain ⟨p, hp⟩ : ∃ p, p = isP W true := ⟨_, rfl⟩
        obtain ⟨p', hp'⟩ : ∃ p, p = isP W false := ⟨_, rfl⟩
        have hpq : ∀ y, p' y = !p y := by intro y; rw [hp, hp']; exact isP_not W true y
        have hqp : ∀ y, p y = !p' y := fun y => by rw [hpq]; simp
        obtain ⟨La, hLa⟩ : ∃ La, La = rowsF p p' n 0 := ⟨_, rfl⟩
        obtain ⟨Lb, hLb⟩ : ∃ Lb, Lb = rowsF p' p n 0 := ⟨_, rfl⟩
        have hR1 := hid (runs_p (hid hI.out.1) hT0 hn true hp hp' hLa)
        obtain ⟨q, hq⟩ : ∃ q, q = wr.heap.size := ⟨_, rfl⟩
        rw [← hq] at hBw hR1
        have HQ := hid hq
        have HP := hid hp
        have HP' := hid hp'
        have HLa := hid hLa
        have HLb := hid hLb
        clear hq hp hp' hLa hLb
        go_wp2_with fail
        refine hR1.out.mono ?_
        rintro e w1 ⟨A1, c1, rfl, hh1, hb1⟩
        have H1 := hid hh1
        have B1 := hid hb1
        have hs1 : q ≤ w1.heap.size := by rw [HQ.out]; exact hb1.size
        have hM1 := hid (Blk.below hI.out.1 hb1 hBw)
        have hT1 := hid (hT0.out.below hb1 (by omega))
        have hR2 := hid (runs_p hM1 hT1 hn false HP'.out HP.out HLb.out)
        clear hh1 hb1
        go_wp2_with fail
        refine hR2.out.mono ?_
        rintro e w2 ⟨A2, c2, rfl, hh2, hb2⟩
        have H1 := hid (H1.out.below hb2)
        have H2 := hid hh2
        have BB := hid ((hI.out.2.trans (B1.out.mono (Nat.le_of_lt hBw))).trans (hb2.mono (by omega)))
        have hT2 := hid (hT1.out.below hb2 (by omega))
        clear hh2 hb2 hR1 hR2 hT0 hT1 hM1
        have hNa := hid (rows_le (Nat.zero_le n) hpq HLa.out)
        have hNb := hid (rows_le (Nat.zero_le n) hqp HLb.out)
        go_wp2_with fail
        go_loopw [9, 10, 11] (fun v1 v2 v3 wz => wz = w2 ∧ ∃ (at_ i k : Nat), v1 = .int .i64 at_ ∧ v2 = .int .i64 i ∧ v3 = .int .i64 k ∧ at_ ≤ n ∧ i ≤ La.length ∧ k ≤ Lb.length ∧ Hid (La.drop i = rowsF p p' n at_ ∧ Lb.drop k = rowsF p' p n at_)) (fun v1 _ _ _ => n - (intOf v1).toNat)
        case atStart => exact ⟨rfl, 0, 0, 0, rfl, rfl, rfl, Nat.zero_le _, Nat.zero_le _, Nat.zero_le _, hid ⟨HLa.out, HLb.out⟩⟩
        case round =>
          obtain ⟨rfl, at_, i, k, rfl, rfl, rfl, hat, hi, hk, hD⟩ := hrel
          have hn4 : (n : Int) ≤ 4096 := by omega
          have hNa := hNa.out
          have hNb := hNb.out
          by_cases hlt : at_ < n
          · cases hpa : p at_ with
            | true =>
              obtain ⟨g1, g2, g3, g4⟩ := rowsF_here hpq hlt hpa
              obtain ⟨e, he⟩ : ∃ e, e = nextF p' n at_ := ⟨_, rfl⟩
              rw [← he] at g1 g2 g3 g4
              obtain ⟨i1, i2, i3⟩ := drop_cons (hD.out.1.trans g3)
              obtain ⟨ad, rfl, c0, c1⟩ := row_cells H1.out i2
              have hD2 := hid (And.intro i3 (hD.out.2.trans g4))
              have hcast : (((e - at_ : Nat)) : Int) = (e : Int) - (at_ : Int) := by omega
              rw [hcast] at c1
              clear g3 g4 i2 i3
              go_wp2_with fail
              go_roundw
              case rel => exact ⟨trivial, e, i + 1, k, by go_num, by go_num, by go_num, g2, i1, hk, hD2⟩
              case measure => simp [intOf]; omega
            | false =>
              have hpb : p' at_ = true := by rw [hpq, hpa]; rfl
              obtain ⟨g1, g2, g3, g4⟩ := rowsF_here hqp hlt hpb
              obtain ⟨e, he⟩ : ∃ e, e = nextF p n at_ := ⟨_, rfl⟩
              rw [← he] at g1 g2 g3 g4
              obtain ⟨i1, i2, i3⟩ := drop_cons (hD.out.2.trans g3)
              obtain ⟨ad, rfl, c0, c1⟩ := row_cells H2.out i2
              have hD2 := hid (And.intro (hD.out.1.trans g4) i3)
              have hcast : (((e - at_ : Nat)) : Int) = (e : Int) - (at_ : Int) := by omega
              rw [hcast] at c1
              have hF := hid (fun (hil : i < La.length) => rows_ne hpq hat hpa hD.out.1 hil)
              clear g3 g4 i2 i3
              by_cases hil : i < La.length
              · obtain ⟨r1, r2, f1, f2⟩ := hF.out hil
                obtain ⟨ad', rfl, d0, d1⟩ := row_cells H1.out f1
                clear f1
                go_wp2_with fail
                go_roundw
                case rel => exact ⟨trivial, e, i, k + 1, by go_num, by go_num, by go_num, g2, hi, i1, hD2⟩
                case measure => simp [intOf]; omega
              · go_wp2_with fail
                go_roundw
                case rel => exact ⟨trivial, e, i, k + 1, by go_num, by go_num, by go_num, g2, hi, i1, hD2⟩
                case measure => simp [intOf]; omega
          · obtain rfl : at_ = n := by omega
            obtain rfl : i = La.length := drop_nil_ hi (hD.out.1.trans (rowsF_end hpq _))
            obtain rfl : k = Lb.length := drop_nil_ hk (hD.out.2.trans (rowsF_end hqp _))
            have HN' := HN.out
            go_wp2_with fail
            refine (awake_any hT2).mono ?_
            rintro e w3 ⟨rfl, hb3⟩
            have BBB := hid (BB.out.trans (hb3.mono BB.out.size))
            clear hb3
            go_wp2_with fail
            go_ret
            exact ⟨rfl, BBB.out⟩
  · go_enter Tryd.func6, Tryd.ntmps6
    go_wp2_with fail
    refine (awake_any hT).mono ?_
    rintro e w1 ⟨rfl, hb⟩
    have B1 := hid hb
    clear hb
    go_wp2_with fail
    go_ret
    exact ⟨rfl, B1.out⟩
end Go.Proofs.YtafndflddlieiaaDoor
