/- A deed done to a map and to the reference's row of the same bits: the same answers, the same bits again. -/
import Derived.Test.YtafndflddlieiaaDoorBoth
import Derived.Test.YtafndflddlieiaaDoorLawsB
import Derived.Test.YtafndflddlieiaaDoorLawsC
namespace Go.Proofs.YtafndflddlieiaaDoor
open Go.RowKit
attribute [local irreducible] wpQuiet
attribute [local go_sem high] run_mxI run_mnI

section
variable {n : Nat} {W : Nat → BitVec 64} {f : Nat → Bool}
theorem Same.isP_ (h : Same n W f) (y : Nat) : isP W false y = (f y == false) := by unfold isP; rw [h.1]
/-- What a deed of the reference leaves. -/
def RefDeed (n : Nat) (f : Nat → Bool) (w : World) (A : Option Addr) (B : Nat) : Prop := Hid (Holds w B A (bcs f n)) ∧ B ≤ w.heap.size

theorem set_two (hS : Same n W f) (hn : n ≤ 4096) (x : Int) (on : Bool) :
    ∃ f', Same n (setI W n x on) f' ∧ ∀ (w : World) (B : Nat) (A : Option Addr) (c : Nat), RefDeed n f w A B →
      Calls Tryd.prog 18 #[.slice A n c, .int .i64 x, .bool on] w fun e w' => ∃ A' c', e = .returned (.tuple #[.slice A' n c', .bool (hasB n x)]) ∧ RefTo n f' w w' A' := by
  cases hx : hasB n x with
  | false =>
    refine ⟨f, by unfold setI; rw [if_neg (by rw [hx]; decide)]; exact hS, fun w B A c h => ?_⟩
    refine (rset_no x on hx).mono ?_
    rintro e w' ⟨rfl, rfl⟩
    exact ⟨A, c, rfl, h.1.out.more h.2, Below.refl _ _⟩
  | true =>
    have ha : 0 ≤ x ∧ x < n := by simpa [hasB] using hx
    obtain ⟨y, rfl⟩ := Int.eq_ofNat_of_zero_le ha.1
    have hy : y < n := by omega
    refine ⟨_, by unfold setI; rw [if_pos hx]; exact hS.set hy on, fun w B A c h => ?_⟩
    exact rset_yes h.1 hn hy on

theorem take_two (hS : Same n W f) (hn : n ≤ 4096) (x : Int) :
    ∃ (a er : Int) (W' : Nat → BitVec 64) (f' : Nat → Bool), Same n W' f' ∧
      (∀ (w : World) (B : Nat) (A : Option Addr) (c : Nat), RefDeed n f w A B →
        Calls Tryd.prog 19 #[.slice A n c, .int .i64 x] w fun e w' => ∃ A' c', e = .returned (.tuple #[.slice A' n c', .int .i64 a, .int .i64 er]) ∧ RefTo n f' w w' A') ∧
      (∀ (w : World) (b : Nat), Hid (MapIs w b n W) → Hid (TabIs w) →
        Calls Tryd.prog 13 #[.pointer (some ⟨b, 0, none⟩), .int .i64 x] w fun e w' => e = .returned (.tuple #[.int .i64 a, .int .i64 er]) ∧ MapIs w' b n W' ∧ Only (fun k => k = b) w w') := by
  by_cases hx : x < 1
  · refine ⟨0, 1, W, f, hS, fun w B A c h => ?_, fun w b hm hT => ?_⟩
    · refine (rtake_bad hx).mono ?_
      rintro e w' ⟨rfl, rfl⟩
      exact ⟨A, c, rfl, h.1.out.more h.2, Below.refl _ _⟩
    · refine (take_bad hx).mono ?_
      rintro e w' ⟨rfl, rfl⟩
      exact ⟨rfl, hm.out, Only.refl _ _⟩
  · have hp : ∀ y, isP W false y = (f y == false) := hS.isP_
    have hq : ∀ y, isP W true y = !isP W false y := isP_not W false
    rcases find_free (W := W) (n := n) x with hf | ⟨r, hf, hx1, hrx, hz⟩
    · refine ⟨0, 5, W, f, hS, fun w B A c h => ?_, fun w b hm hT => ?_⟩
      · refine (rtake_full h.1 h.2 hn (by omega) hp hq hf).mono ?_
        rintro e w' ⟨rfl, hb⟩
        exact ⟨A, c, rfl, (h.1.out.below (hb.mono h.2)).more (Nat.le_trans h.2 hb.size), hb⟩
      · refine (take_full2 hm hT hn (by omega) hf).mono ?_
        rintro e w' ⟨rfl, hb⟩
        exact ⟨rfl, Blk.below hm.out hb hm.out.lt, Only.of_below hb fun k hk _ => hk⟩
    · obtain ⟨z, rfl⟩ := Int.eq_ofNat_of_zero_le (show 0 ≤ x by omega)
      have hrz : r + z ≤ n := by omega
      have hz1 : 1 ≤ z := by omega
      exact ⟨r, 0, _, _, hS.row hrz true, fun w B A c h => rtake_yes h.1 h.2 hn hz1 hrz hp hq hf, fun w b hm hT => take_yes hm hT hn hz1 hf hrz⟩

theorem free_two (hS : Same n W f) (hn : n ≤ 4096) (a l : Int) :
    ∃ (er : Int) (W' : Nat → BitVec 64) (f' : Nat → Bool), Same n W' f' ∧
      (∀ (w : World) (B : Nat) (A : Option Addr) (c : Nat), RefDeed n f w A B →
        Calls Tryd.prog 20 #[.slice A n c, .agg #[.int .i64 a, .int .i64 l]] w fun e w' => ∃ A' c', e = .returned (.tuple #[.slice A' n c', .int .i64 er]) ∧ RefTo n f' w w' A') ∧
      (∀ (w : World) (b : Nat), Hid (MapIs w b n W) → Hid (TabIs w) →
        Calls Tryd.prog 15 #[.pointer (some ⟨b, 0, none⟩), .agg #[.int .i64 a, .int .i64 l]] w fun e w' => e = .returned (.int .i64 er) ∧ MapIs w' b n W' ∧ Only (fun k => k = b) w w') := by
  by_cases hc : hasB n a = false ∨ l < 1 ∨ (n : Int) - a < l
  · refine ⟨1, W, f, hS, fun w B A c h => ?_, fun w b hm hT => ?_⟩
    · refine (rfree_bad hc hn).mono ?_
      rintro e w' ⟨rfl, hb⟩
      exact ⟨A, c, rfl, (h.1.out.below (hb.mono h.2)).more (Nat.le_trans h.2 hb.size), hb⟩
    · refine (free_bad hm hc hn).mono ?_
      rintro e w' ⟨rfl, hb⟩
      exact ⟨rfl, Blk.below hm.out hb hm.out.lt, Only.of_below hb fun k hk _ => hk⟩
  · have h1 : hasB n a = true := by
      cases hb : hasB n a with
      | true => rfl
      | false => exact absurd (Or.inl hb) hc
    have h2 : ¬ l < 1 := fun h => hc (Or.inr (Or.inl h))
    have h3 : ¬ (n : Int) - a < l := fun h => hc (Or.inr (Or.inr h))
    have ha : 0 ≤ a ∧ a < n := by simpa [hasB] using h1
    obtain ⟨y, rfl⟩ := Int.eq_ofNat_of_zero_le ha.1
    obtain ⟨z, rfl⟩ := Int.eq_ofNat_of_zero_le (show 0 ≤ l by omega)
    have hz1 : 1 ≤ z := by omega
    have hyz : y + z ≤ n := by omega
    have hy : y ≤ n := by omega
    obtain ⟨s1, s2, s3, s4⟩ := nextF_spec (isP W false) (n := n) (a := y) hy
    by_cases hall : ∀ k, y ≤ k → k < y + z → f k = true
    · have hnx : ¬ nextF (isP W false) n y < y + z := fun h => by
        have h5 := s4 (by omega)
        rw [hS.isP_, hall _ s1 h] at h5
        exact absurd h5 (by decide)
      refine ⟨0, _, _, hS.row hyz false, fun w B A c h => ?_, fun w b hm hT => ?_⟩
      · refine (rfree_ok h.1 h.2 hn hz1 hyz).mono ?_
        rintro e w' (⟨hno, -, -⟩ | ⟨-, A', c', rfl, hr⟩)
        · exact absurd hall hno
        · exact ⟨A', c', rfl, hr⟩
      · refine (free_ok hm hT hn hz1 hyz).mono ?_
        rintro e w' (⟨hlt, -, -⟩ | ⟨-, rfl, hm', ho⟩)
        · exact absurd hlt hnx
        · exact ⟨rfl, hm', ho⟩
    · have hnx : ¬ y + z ≤ nextF (isP W false) n y := fun h => hall fun k hk1 hk2 => by
        have h5 := s3 k hk1 (by omega)
        rw [hS.isP_] at h5
        cases hfk : f k with
        | true => rfl
        | false => rw [hfk] at h5; exact absurd h5 (by decide)
      refine ⟨7, W, f, hS, fun w B A c h => ?_, fun w b hm hT => ?_⟩
      · refine (rfree_ok h.1 h.2 hn hz1 hyz).mono ?_
        rintro e w' (⟨-, rfl, hb⟩ | ⟨hyes, -⟩)
        · exact ⟨A, c, rfl, (h.1.out.below (hb.mono h.2)).more (Nat.le_trans h.2 hb.size), hb⟩
        · exact absurd hyes hall
      · refine (free_ok hm hT hn hz1 hyz).mono ?_
        rintro e w' (⟨-, rfl, hb⟩ | ⟨hge, -⟩)
        · exact ⟨rfl, Blk.below hm.out hb hm.out.lt, Only.of_below hb fun k hk _ => hk⟩
        · exact absurd hge hnx

theorem get_two (hS : Same n W f) (hn : n ≤ 4096) {b : Nat} {w : World} (hm : Hid (MapIs w b n W)) (x : Int) :
    Calls Tryd.prog 14 #[.pointer (some ⟨b, 0, none⟩), .int .i64 x] w fun e w' => e = .returned (.bool (hasB n x && f x.toNat)) ∧ w = w' := by
  cases hx : hasB n x with
  | false => exact get_no hm hx
  | true =>
    have ha : 0 ≤ x ∧ x < n := by simpa [hasB] using hx
    obtain ⟨y, rfl⟩ := Int.eq_ofNat_of_zero_le ha.1
    have := get_yes hm (x := y) (by omega) hn
    rw [hS.1] at this
    simpa using this
end

/-! ### the map, the row, and nothing else turned -/
structure PlayB (w wr : World) (n : Nat) (W : Nat → BitVec 64) (A : Option Addr) (f : Nat → Bool) : Prop where
  map : MapIs wr w.heap.size n W
  row : Holds wr wr.heap.size A (bcs f n)
  below : Below w.heap.size w wr
section
variable {w wr w' : World} {n : Nat} {W W' : Nat → BitVec 64} {A A' : Option Addr} {f f' : Nat → Bool}
theorem PlayB.far (h : PlayB w wr n W A f) (hn : 0 < n) : ∀ ad, A = some ad → ad.block ≠ w.heap.size := by
  rintro ad rfl hb
  obtain ⟨ad', e, -, hc⟩ := h.row (by rw [bcs_length]; exact hn)
  obtain rfl := Option.some.inj e
  have h0 := hc 0 _ (bcs_get f hn)
  have hbl : wr.heap[w.heap.size]? = some (.cells (cellsW n W) 65 (0, 0)) := h.map
  have hbk : (ad.add 0).block = w.heap.size := by rw [block_add]; exact hb
  unfold World.cell? at h0
  rw [hbk, hbl] at h0
  simp only at h0
  split at h0
  · cases h0
  · have hmem := Array.mem_of_getElem? h0
    simp [cellsW] at hmem
theorem PlayB.on (h : PlayB w wr n W A f) (hb : Below wr.heap.size wr w') : PlayB w w' n W A f :=
  ⟨Blk.below h.map hb h.map.lt, (h.row.below hb).more hb.size, h.below.trans (hb.mono h.below.size)⟩
theorem PlayB.refs (h : PlayB w wr n W A f) (hr : RefTo n f' wr w' A') : PlayB w w' n W A' f' :=
  ⟨Blk.below h.map hr.2 h.map.lt, hr.1, h.below.trans (hr.2.mono h.below.size)⟩
theorem PlayB.maps (h : PlayB w wr n W A f) (hm : MapIs w' w.heap.size n W') (ho : Only (fun k => k = w.heap.size) wr w') : PlayB w w' n W' A f :=
  ⟨hm, fun hn => by
    obtain ⟨ad, e, hb, hc⟩ := h.row hn
    rw [bcs_length] at hn
    have hne := h.far hn ad e
    refine ⟨ad, e, Nat.lt_of_lt_of_le hb ho.size, fun j u hu => ?_⟩
    exact (World.cell?_of_block (w := wr) (ho.block _ (by rw [block_add]; exact hb) (by rw [block_add]; exact hne))).trans (hc j u hu),
    h.below.trans (ho.below h.below.size (fun k hk e => by omega))⟩
theorem PlayB.drewN (h : PlayB w wr n W A f) (q : Nat) : PlayB w (wr.drewN q) n W A f := ⟨h.map, h.row, h.below.trans (below_drewN (Below.refl _ _) q)⟩
theorem PlayB.deed (h : PlayB w wr n W A f) : RefDeed n f wr A wr.heap.size := ⟨hid h.row, Nat.le_refl _⟩
end
end Go.Proofs.YtafndflddlieiaaDoor
