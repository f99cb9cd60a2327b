/- What the reference functions of chapter 6 answer: Drop, Get, Pin, New. -/
import Derived.Test.YtehdclfmkeemgaaRef2
namespace Go.Proofs.Ytehdclfmkeemgaa
open Go.RowKit
attribute [local irreducible] wpQuiet
attribute [local go_sem high] run_mxI run_mnI

theorem own_holdsS {w : World} {base e size n c : Nat} {A : Option Addr} {xs : List Value} (h : w.ownsRow base e size (.slice A n c) n xs) : Holds w w.heap.size A xs ∧ n ≤ c ∧ ∀ ad, A = some ad → base ≤ ad.block := by
  obtain ⟨hl, h⟩ := h
  rcases h with ⟨hv, h0⟩ | ⟨g, cap, cur, hv, hb, hc, hn, hcap, hs, ht⟩
  · injection hv with h1 h2 h3
    subst h1 h2 h3
    exact ⟨fun hx => by simp at hl; rw [hl] at hx; exact absurd hx (by simp), Nat.le_refl _, fun ad had => by cases had⟩
  · injection hv with h1 h2 h3
    subst h1 h3
    refine ⟨fun _ => ⟨⟨g, 0, none⟩, rfl, (Array.getElem?_eq_some_iff.1 hc).1, fun j u hu => ?_⟩, hn, fun ad had => by cases had; exact hb⟩
    rw [add_plain, cell_of_row w g j cur e (0, 0) hc]
    rw [← ht, List.getElem?_take] at hu
    split at hu
    · simpa using hu
    · cases hu

/-- The reference's cache reads L at A. -/
def RefAt (w : World) (A : Option Addr) (c : Nat) (L : List Ent) : Prop := Holds w w.heap.size A (ecs L) ∧ L.length ≤ c ∧ ∀ ad, A = some ad → ad.block < w.heap.size
section
variable {w w' : World} {M : Nat} {A : Option Addr} {c n : Nat} {L : List Ent}
theorem RefAt.below (h : RefAt w A c L) (hb : Below w.heap.size w w') : RefAt w' A c L := ⟨(h.1.below hb).more hb.size, h.2.1, fun ad had => Nat.lt_of_lt_of_le (h.2.2 ad had) hb.size⟩
theorem RefAt.of_own {base : Nat} (h : w.ownsRow base 59 3 (.slice A L.length c) L.length (ecs L)) : RefAt w A c L := ⟨(own_holdsS h).1, (own_holdsS h).2.1, fun ad had => (h.lt ad.block (by rw [had]; rfl)).2⟩
theorem NewAt.of_own {w0 : World} {base : Nat} {A' : Option Addr} {xs : List Value} (h : w.ownsRow base 59 3 (.slice A' n c) n xs) (hb : w0.heap.size ≤ base) : NewAt w0 A A' := fun ad had => .inr (Nat.le_trans hb ((own_holdsS h).2.2 ad had))

set_option maxHeartbeats 400000 in
theorem refnew_any {m : Int} {w : World} (hM : mnI (mxI m 0) 65536 = (M : Int)) :
    Calls Try.prog 10 #[.int .i64 m] w fun e w' => e = .returned (.agg #[.int .i64 M, .slice none 0 0]) ∧ Below w.heap.size w w' := by
  go_enter Try.func10, Try.ntmps10
  go_wp2
  refine bodyPost_ret (v := .agg #[.int .i64 M, .slice none 0 0]) (by simp [results, Try.results10, go_sem]) rfl ⟨rfl, ?_⟩
  exact (Below.refl _ _).alloc (Nat.le_refl _) _

def DropPost (M : Nat) (A : Option Addr) (L : List Ent) (x : Int) (w : World) (e : Ending) (w' : World) : Prop :=
  ∃ A' c', e = .returned (.tuple #[.agg #[.int .i64 M, .slice A' (goneL L x).length c'], .bool (look L x).isSome]) ∧ RefAt w' A' c' (goneL L x) ∧ NewAt w A A' ∧ Below w.heap.size w w'
set_option maxHeartbeats 800000 in
theorem refdrop_any (h : Hid (RefAt w A c L)) (hn : L.length = n) (hl : n ≤ 1000) (hnd : (keysL L).Nodup) (x : Int) :
    Calls Try.prog 18 #[.agg #[.int .i64 M, .slice A n c], .int .i64 x] w (DropPost M A L x w) := by
  have HN := hid hn
  obtain ⟨w1, hw1⟩ : ∃ w1, w1 = (w.alloc (.cells #[.int .i64 M, .slice A n c] 29)).alloc (.cells #[.int .i64 0, .slice none 0 0] 29) := ⟨_, rfl⟩
  have HW := hid hw1
  have hB1 := hid (show Below w.heap.size w w1 by rw [hw1]; exact ((Below.refl _ _).alloc (Nat.le_refl _) _).alloc (by simp) _)
  have hb0 := hid (show Blk w1 w.heap.size 29 #[.int .i64 M, .slice A n c] by rw [hw1]; exact (Blk.new _ _ _).alloc _)
  have hb1 := hid (show Blk w1 (w.heap.size + 1) 29 #[.int .i64 0, .slice none 0 0] by rw [hw1]; have := Blk.new (w.alloc (.cells #[.int .i64 M, .slice A n c] 29)) 29 #[.int .i64 0, .slice none 0 0]; simpa using this)
  have hr1 := hid (h.out.below hB1.out)
  have hz1 := hid (show w1.heap.size = w.heap.size + 2 by rw [hw1]; simp)
  have hF := hid (find_any (M := M) (c := c) (hid hr1.out.1) hn hl x)
  clear hw1 hn
  cases hfi : L.findIdx? (fun e => e.key == x) with
  | none =>
    obtain ⟨hlk, hgn⟩ := goneL_none hfi
    have HLK := hid hlk
    have HGN := hid hgn
    have HF : Hid (Calls Try.prog 30 #[.agg #[.int .i64 M, .slice A n c], .int .i64 x] w1 fun e w' => e = .returned (.int .i64 (-1)) ∧ Below w1.heap.size w1 w') := hid (by have := hF.out; rw [hfi] at this; exact this)
    clear hfi hlk hgn hF hnd
    go_enter Try.func18, Try.ntmps18
    go_wp2_with fail
    rw [← HW.out]
    refine HF.out.mono ?_
    rintro e w2 ⟨rfl, hb2⟩
    have b0 := hb0.out.below hb2 hb0.out.lt
    have b1 := hb1.out.below hb2 hb1.out.lt
    have c0 : w2.cell? ⟨w.heap.size, 0, none⟩ = some (.int .i64 M) := by rw [b0.cell]; rfl
    have c1 : w2.cell? ⟨w.heap.size, 1, none⟩ = some (.slice A n c) := by rw [b0.cell]; rfl
    have c2 : w2.cell? ⟨w.heap.size + 1, 0, none⟩ = some (.int .i64 0) := by rw [b1.cell]; rfl
    have c3 : w2.cell? ⟨w.heap.size + 1, 1, none⟩ = some (.slice none 0 0) := by rw [b1.cell]; rfl
    have f0 := b1.frozen 0
    have f1 := b1.frozen 1
    have hsz := hid b1.lt
    have HB2 := hid (hB1.out.trans (hb2.mono hB1.out.size))
    clear b0 b1 hb2
    go_wp2_with fail
    refine bodyPost_ret (v := .tuple #[.agg #[.int .i64 M, .slice A n c], .bool false]) ?_ rfl ⟨A, c, ?_, ?_, NewAt.refl _ _, ?_⟩
    · simp [results, Try.results18, go_sem, *]
    · rw [HLK.out, HGN.out, HN.out]; rfl
    · rw [HGN.out]; exact h.out.below ((HB2.out.setCell (by simp) _).setCell (by simp) _)
    · exact (HB2.out.setCell (by simp) _).setCell (by simp) _
  | some i =>
    obtain ⟨e, he, hk, hg⟩ := goneL_some hfi
    have hil : i < L.length := (List.getElem?_eq_some_iff.1 he).1
    have hlk : look L x = some e.g := by rw [← hk]; exact look_at hnd he
    have HLK := hid hlk
    have HGN := hid hg
    have HF : Hid (Calls Try.prog 30 #[.agg #[.int .i64 M, .slice A n c], .int .i64 x] w1 fun e w' => e = .returned (.int .i64 (i : Int)) ∧ Below w1.heap.size w1 w') := hid (by have := hF.out; rw [hfi] at this; exact this)
    have hin : i < n := by rw [← HN.out]; exact hil
    clear hfi hlk hg hF hnd he hk hil
    go_enter Try.func18, Try.ntmps18
    go_wp2_with fail
    rw [← HW.out]
    refine HF.out.mono ?_
    rintro r w2 ⟨rfl, hb2⟩
    have b0 := hid (hb0.out.below hb2 hb0.out.lt)
    have b1 := hid (hb1.out.below hb2 hb1.out.lt)
    have c0 : w2.cell? ⟨w.heap.size, 0, none⟩ = some (.int .i64 M) := by rw [b0.out.cell]; rfl
    have c1 : w2.cell? ⟨w.heap.size, 1, none⟩ = some (.slice A n c) := by rw [b0.out.cell]; rfl
    have hr2 := hid (hr1.out.below hb2)
    have HB2 := hid (hB1.out.trans (hb2.mono hB1.out.size))
    have hz2 := hid (show w.heap.size + 2 ≤ w2.heap.size by have := hz1.out; have := hb2.size; omega)
    have hcn := hid (show n ≤ c by have := h.out.2.1; have := HN.out; omega)
    clear hb2
    go_wp2_with fail
    refine (refwithout_any (i := i) (hid hr2.out.1) HN.out hcn.out hl hin).mono ?_
    rintro r w3 ⟨A3, c3', rfl, hown, hb3⟩
    have b1' := hid (b1.out.below hb3 b1.out.lt)
    have d2 : w3.cell? ⟨w.heap.size + 1, 0, none⟩ = some (.int .i64 0) := by rw [b1'.out.cell]; rfl
    have d3 : w3.cell? ⟨w.heap.size + 1, 1, none⟩ = some (.slice none 0 0) := by rw [b1'.out.cell]; rfl
    have f0 := b1'.out.frozen 0
    have f1 := b1'.out.frozen 1
    have hsz := hid b1'.out.lt
    have HB3 := hid (HB2.out.trans (hb3.mono HB2.out.size))
    have HO := hid hown
    clear hown hb3 c0 c1
    go_wp2_with fail
    have hown4 := ownsRow_setCell_below (ownsRow_setCell_below HO.out (a := ⟨w.heap.size + 1, 0, none⟩) (by have := hz2.out; show w.heap.size + 1 < w2.heap.size; omega) (.int .i64 M)) (a := ⟨w.heap.size + 1, 1, none⟩) (by have := hz2.out; show w.heap.size + 1 < w2.heap.size; omega) (.slice A3 (L.eraseIdx i).length c3')
    refine bodyPost_ret (v := .tuple #[.agg #[.int .i64 M, .slice A3 (L.eraseIdx i).length c3'], .bool true]) ?_ rfl ⟨A3, c3', ?_, ?_, NewAt.of_own HO.out (by have := hz2.out; omega), ?_⟩
    · simp [results, Try.results18, go_sem, *]
    · rw [HLK.out, HGN.out]; rfl
    · rw [HGN.out]; exact RefAt.of_own hown4
    · exact (HB3.out.setCell (by simp) _).setCell (by simp) _
end
end Go.Proofs.Ytehdclfmkeemgaa
