/- The reference's Find, Set, row. -/
import Derived.Test.YtafndflddlieiaaDoorRefC
namespace Go.Proofs.YtafndflddlieiaaDoor
open Go.RowKit
attribute [local irreducible] wpQuiet
attribute [local go_sem high] run_mxI run_mnI

section
variable {w : World} {B n c : Nat} {A : Option Addr} {f : Nat → Bool}
theorem findR_cons (x : Int) (r : Nat × Nat) (L : List (Nat × Nat)) : findR x (r :: L) = if 1 ≤ x ∧ x ≤ (r.2 : Int) then (r.1 : Int) else findR x L := rfl
set_option maxHeartbeats 800000 in
theorem rfind_any (h : Hid (Holds w B A (bcs f n))) (hB : B ≤ w.heap.size) (hn : n ≤ 4096) (x : Int) {p q : Nat → Bool} (hp : ∀ y, p y = (f y == false)) (hq : ∀ y, q y = !p y) {R : List (Nat × Nat)} (hR : R = rowsF p q n 0) :
    Calls Tryd.prog 22 #[.slice A n c, .int .i64 x] w fun e w' => e = .returned (.int .i64 (findR x R)) ∧ Below w.heap.size w w' := by
  have hRn := rows_le (Nat.zero_le n) hq hR
  have hC := hid (rruns_any (c := c) h hB hn false hp hq hR)
  clear hp hq hR
  go_enter Tryd.func22, Tryd.ntmps22
  go_wp2_with fail
  refine hC.out.mono ?_
  rintro e w1 ⟨A1, c1, rfl, hh, hb⟩
  have H1 := hid hh
  have B1 := hid hb
  clear hh hb hC
  go_wp2_with fail
  go_loopw [6] (fun v6 wr => wr = w1 ∧ ∃ k : Nat, k ≤ R.length ∧ v6 = .int .i64 k ∧ Hid (findR x R = findR x (R.drop k))) (fun v6 _ => R.length - (intOf v6).toNat)
  case atStart => exact ⟨rfl, 0, Nat.zero_le _, rfl, rfl⟩
  case round =>
    obtain ⟨rfl, k, hk, rfl, hF⟩ := hrel
    by_cases hkn : k < R.length
    · obtain ⟨r, hr⟩ : ∃ r, R[k]? = some r := ⟨_, List.getElem?_eq_getElem hkn⟩
      obtain ⟨ad, rfl, e0, e1⟩ := row_cells H1.out hr
      have hd : R.drop k = r :: R.drop (k + 1) := by
        rw [List.drop_eq_getElem_cons hkn]
        congr 1
        rw [List.getElem?_eq_getElem hkn] at hr
        exact Option.some.inj hr
      have hF2 := hF.out
      rw [hd, findR_cons] at hF2
      have HF := hid hF2
      clear hF2 hd hr
      by_cases h1 : 1 ≤ x ∧ x ≤ (r.2 : Int)
      · obtain ⟨h2, h3⟩ := h1
        go_wp2_with fail
        go_ret
        have := HF.out
        rw [if_pos ⟨h2, h3⟩] at this
        rw [this]
        exact ⟨rfl, B1.out⟩
      · have HN := hid (show findR x R = findR x (R.drop (k + 1)) by have := HF.out; rwa [if_neg h1] at this)
        by_cases h2 : 1 ≤ x
        · have h3 : ¬ x ≤ (r.2 : Int) := fun h => h1 ⟨h2, h⟩
          clear h1
          go_wp2_with fail
          go_roundw
          case rel => exact ⟨trivial, k + 1, by omega, by go_num, HN⟩
          case measure => simp [intOf]; omega
        · clear h1
          go_wp2_with fail
          go_roundw
          case rel => exact ⟨trivial, k + 1, by omega, by go_num, HN⟩
          case measure => simp [intOf]; omega
    · obtain rfl : k = R.length := by omega
      have hF2 := hid (show findR x R = -1 by have := hF.out; rw [List.drop_length] at this; exact this)
      go_wp2_with fail
      go_ret
      rw [hF2.out]
      exact ⟨rfl, B1.out⟩
theorem bcs_one (f : Nat → Bool) (n : Nat) : ∀ u ∈ bcs f n, u.oneCell' = true := by
  intro u hu
  simp only [bcs, List.mem_map] at hu
  obtain ⟨i, -, rfl⟩ := hu
  rfl
theorem bcs_setL (f : Nat → Bool) {n i : Nat} (_hi : i < n) (b : Bool) : (bcs f n).set i (.bool b) = bcs (fun y => if y = i then b else f y) n := by
  have := congrArg Array.toList (bcs_set f _hi b)
  simpa using this
def RefTo (n : Nat) (f : Nat → Bool) (w w' : World) (A : Option Addr) : Prop := Holds w' w'.heap.size A (bcs f n) ∧ Below w.heap.size w w'
theorem rset_no (x : Int) (on : Bool) (hx : hasB n x = false) :
    Calls Tryd.prog 18 #[.slice A n c, .int .i64 x, .bool on] w fun e w' => e = .returned (.tuple #[.slice A n c, .bool false]) ∧ w = w' := by
  by_cases h0 : 0 ≤ x
  · have h1 : (n : Int) ≤ x := by
      simp [hasB, h0] at hx
      omega
    clear hx
    go_enter Tryd.func18, Tryd.ntmps18
    go_wp2_with fail
    go_ret2
    exact ⟨rfl, rfl⟩
  · clear hx
    go_enter Tryd.func18, Tryd.ntmps18
    go_wp2_with fail
    go_ret2
    exact ⟨rfl, rfl⟩
set_option maxHeartbeats 400000 in
theorem rset_yes (h : Hid (Holds w B A (bcs f n))) (hn : n ≤ 4096) {x : Nat} (hx : x < n) (on : Bool) :
    Calls Tryd.prog 18 #[.slice A n c, .int .i64 x, .bool on] w fun e w' => ∃ A' c', e = .returned (.tuple #[.slice A' n c', .bool true]) ∧ RefTo n (fun y => if y = x then on else f y) w w' A' := by
  have hl := hid (show (([] : List Value).length + (bcs f n).length) * 1 ≤ 140737488355328 by rw [bcs_length]; simp; omega)
  go_enter Tryd.func18, Tryd.ntmps18
  go_wp2_with (at_builtin; refine wpList_app _ rfl (.const (.slice none 0 0)) (.tmp 18) 40 4 (.bool false) 1 rfl Tryd.underlying40 info4 rfl (by decide) w.heap.size (.slice none 0 0) [] rfl (World.ownsRow_nil _ _ _ _) B A c n (bcs f n) rfl (bcs_length f n) h.out (bcs_one f n) hl.out (Nat.le_refl _) ?_)
  intro v' w' hown hg _
  have hown2 : w'.ownsRow w.heap.size 4 1 v' n (bcs f n) := by simpa [bcs_length] using hown
  have hb : Below w.heap.size w w' := (Below.refl _ _).grown hg (Nat.le_refl _) (by simp [Value.ownBlock])
  obtain ⟨g, c', hv⟩ : ∃ g c', v' = .slice (some ⟨g, 0, none⟩) n c' := by
    obtain ⟨g, c', hv, -⟩ := hown2.form (by omega)
    exact ⟨g, c', hv⟩
  subst hv
  obtain ⟨⟨k1, f1⟩, ho2⟩ := own_set (j := x) hown2 (by omega) (.bool on)
  have hgw := own_ge hown2 g rfl
  rw [bcs_setL f hx] at ho2
  rw [bcs_get f hx] at k1
  have HO := hid ho2
  have HB := hid hb
  clear hown hown2 hg ho2 hb
  go_wp2_with fail
  go_ret2
  exact ⟨_, _, rfl, (own_holdsS HO.out).1, HB.out.setCell hgw _⟩
set_option maxHeartbeats 400000 in
theorem rrow_any (h : Hid (Holds w B A (bcs f n))) (hB : B ≤ w.heap.size) (hn : n ≤ 4096) {a l : Nat} (hl1 : 1 ≤ l) (hal : a + l ≤ n) (on : Bool) :
    Calls Tryd.prog 37 #[.slice A n c, .agg #[.int .i64 a, .int .i64 l], .bool on] w fun e w' => ∃ A' c', e = .returned (.slice A' n c') ∧ RefTo n (fun y => if a ≤ y ∧ y < a + l then on else f y) w w' A' := by
  have hl := hid (show (([] : List Value).length + (bcs f n).length) * 1 ≤ 140737488355328 by rw [bcs_length]; simp; omega)
  obtain ⟨wb, hwb⟩ : ∃ wb, wb = w.alloc (.cells #[.int .i64 a, .int .i64 l] 37) := ⟨_, rfl⟩
  have hx := hid (show Blk wb w.heap.size 37 #[.int .i64 a, .int .i64 l] by rw [hwb]; exact Blk.new w 37 #[.int .i64 a, .int .i64 l])
  have hHb := hid (show Holds wb B A (bcs f n) by rw [hwb]; exact h.out.below ((Below.refl _ _).alloc hB _))
  have hBb := hid (show Below w.heap.size w wb by rw [hwb]; exact (Below.refl _ _).alloc (Nat.le_refl _) _)
  have hsb : wb.heap.size = w.heap.size + 1 := by rw [hwb]; simp
  have HW := hid hwb
  go_enter Tryd.func37, Tryd.ntmps37
  go_wp2_with (at_builtin; refine wpList_app _ rfl (.const (.slice none 0 0)) (.tmp 9) 40 4 (.bool false) 1 rfl Tryd.underlying40 info4 rfl (by decide) (w.heap.size + 1) (.slice none 0 0) [] rfl (World.ownsRow_nil _ _ _ _) B A c n (bcs f n) rfl (bcs_length f n) (by rw [← HW.out]; exact hHb.out) (bcs_one f n) hl.out (by rw [← HW.out]; omega) ?_)
  intro v' w' hown hg _
  rw [← HW.out] at hg
  have hown2 : w'.ownsRow (w.heap.size + 1) 4 1 v' n (bcs f n) := by simpa [bcs_length] using hown
  have hb : Below w.heap.size w w' := hBb.out.grown hg (by omega) (by simp [Value.ownBlock])
  have hx' := hid (show Blk w' w.heap.size 37 #[.int .i64 a, .int .i64 l] from (hg.block w.heap.size (by omega) (by simp [Value.ownBlock])).trans hx.out)
  obtain ⟨g, c', hv⟩ : ∃ g c', v' = .slice (some ⟨g, 0, none⟩) n c' := by
    obtain ⟨g, c', hv, -⟩ := hown2.form (by omega)
    exact ⟨g, c', hv⟩
  subst hv
  have hgw := own_ge hown2 g rfl
  have HO := hid hown2
  have HB := hid hb
  clear hown hown2 hg hb
  go_wp2_with fail
  go_loopw [8] (fun v8 wr => ∃ k : Nat, k ≤ l ∧ v8 = .int .i64 k ∧ Hid (wr.ownsRow (w.heap.size + 1) 4 1 (.slice (some ⟨g, 0, none⟩) n c') n (bcs (fun y => if a ≤ y ∧ y < a + k then on else f y) n) ∧ Below w.heap.size w wr ∧ Blk wr w.heap.size 37 #[.int .i64 a, .int .i64 l])) (fun v8 _ => l - (intOf v8).toNat)
  case atStart =>
    refine ⟨0, Nat.zero_le _, rfl, hid ⟨?_, HB.out, hx'.out⟩⟩
    have e : (fun y => if a ≤ y ∧ y < a + 0 then on else f y) = f := by funext y; rw [if_neg (by omega)]
    rw [e]
    exact HO.out
  case round =>
    obtain ⟨k, hk, rfl, hI⟩ := hrel
    have x0 : wr.cell? ⟨w.heap.size, 0, none⟩ = some (.int .i64 a) := by rw [hI.out.2.2.cell]; rfl
    have x1 : wr.cell? ⟨w.heap.size, 1, none⟩ = some (.int .i64 l) := by rw [hI.out.2.2.cell]; rfl
    by_cases hkl : k < l
    · obtain ⟨⟨k1, f1⟩, ho2⟩ := own_set (j := a + k) hI.out.1 (by omega) (.bool on)
      rw [bcs_setL _ (by omega)] at ho2
      rw [bcs_get _ (by omega)] at k1
      have e : (fun y => if y = a + k then on else if a ≤ y ∧ y < a + k then on else f y) = (fun y => if a ≤ y ∧ y < a + (k + 1) then on else f y) := by
        funext y
        by_cases h1 : y = a + k
        · rw [if_pos h1, if_pos (by omega)]
        · rw [if_neg h1]
          by_cases h2 : a ≤ y ∧ y < a + k
          · rw [if_pos h2, if_pos (by omega)]
          · rw [if_neg h2, if_neg (by omega)]
      rw [e] at ho2
      have HO2 := hid ho2
      clear ho2 e
      go_wp2_with fail
      go_roundw
      case rel => exact ⟨k + 1, by omega, by go_num, hid ⟨HO2.out, hI.out.2.1.setCell (by show w.heap.size ≤ g; omega) _, Blk.far hI.out.2.2 (p := ⟨g, a + k, none⟩) (by show w.heap.size ≠ g; omega) _⟩⟩
      case measure => simp [intOf]; omega
    · obtain rfl : k = l := by omega
      go_wp2_with fail
      go_ret
      exact ⟨_, _, rfl, (own_holdsS hI.out.1).1, hI.out.2.1⟩
end
end Go.Proofs.YtafndflddlieiaaDoor
