/- What the reference function Pin of chapter 6 answers. -/
import Derived.Test.YtehdclfmkeemgaaRef4
namespace Go.Proofs.Ytehdclfmkeemgaa
open Go.RowKit
attribute [local irreducible] wpQuiet
attribute [local go_sem high] run_mxI run_mnI
theorem own_set {w : World} {base e size n c g j : Nat} {xs : List Value} (h : w.ownsRow base e size (.slice (some ⟨g, 0, none⟩) n c) n xs) (hj : j < n * size) (u : Value) :
    (w.cell? ⟨g, j, none⟩ = xs[j]? ∧ w.frozen? ⟨g, j, none⟩ = false) ∧ (w.setCell ⟨g, j, none⟩ u).ownsRow base e size (.slice (some ⟨g, 0, none⟩) n c) n (xs.set j u) := by
  obtain ⟨hl, h⟩ := h
  rcases h with ⟨hv, _⟩ | ⟨g', cap, cur, hv, hb, hc, hn, hcap, hs, ht⟩
  · cases hv
  · injection hv with h1 h2 h3
    obtain rfl : g = g' := by injection h1 with h1; injection h1
    subst h3
    refine ⟨⟨?_, ?_⟩, by simpa using hl, .inr ⟨g, c, cur.setIfInBounds j u, rfl, hb, ?_, hn, hcap, by simpa using hs, ?_⟩⟩
    · rw [cell_of_row w g j cur e (0, 0) hc, ← ht, List.getElem?_take, if_pos hj]
      simp
    · simp [World.frozen?, hc]
    · simp [World.setCell, Array.getElem?_modify, hc]
    · rw [← ht, Array.toList_setIfInBounds, List.take_set]
theorem ecs_pin (L : List Ent) {i : Nat} {e : Ent} (he : L[i]? = some e) (b : Bool) : ecs (pinL L i e b) = (ecs L).set (i * 3 + 2) (.bool b) := by
  unfold pinL
  induction L generalizing i with
  | nil => simp at he
  | cons a L ih =>
    have hc : ∀ (a : Ent) (M : List Ent), ecs (a :: M) = [Value.int .i64 a.key, Value.string a.v, Value.bool a.p] ++ ecs M := fun _ _ => rfl
    cases i with
    | zero =>
      simp only [List.getElem?_cons_zero, Option.some.injEq] at he
      subst he
      rfl
    | succ i =>
      simp only [List.getElem?_cons_succ] at he
      rw [List.set_cons_succ, hc, hc, ih he, show (i + 1) * 3 + 2 = i * 3 + 2 + 1 + 1 + 1 by omega]
      rfl

section
variable {w w' : World} {M : Nat} {A : Option Addr} {c n : Nat} {L : List Ent}
def PinPost (M : Nat) (A : Option Addr) (L : List Ent) (x : Int) (b : Bool) (w : World) (e : Ending) (w' : World) : Prop :=
  ∃ A' c', e = .returned (.tuple #[.agg #[.int .i64 M, .slice A' (setP L x b).length c'], .bool (look L x).isSome]) ∧ RefAt w' A' c' (setP L x b) ∧ NewAt w A A' ∧ Below w.heap.size w w'
set_option maxHeartbeats 1600000 in
theorem refpin_any (h : Hid (RefAt w A c L)) (hn : L.length = n) (hl : n ≤ 1000) (hnd : (keysL L).Nodup) (x : Int) (b : Bool) :
    Calls Try.prog 16 #[.agg #[.int .i64 M, .slice A n c], .int .i64 x, .bool b] w (PinPost M A L x b w) := by
  have HN := hid hn
  obtain ⟨w1, hw1⟩ : ∃ w1, w1 = (w.alloc (.cells #[.int .i64 M, .slice A n c] 29)).alloc (.cells #[.int .i64 0, .slice none 0 0] 29) := ⟨_, rfl⟩
  have HW := hid hw1
  have hB1 := hid (show Below w.heap.size w w1 by rw [hw1]; exact ((Below.refl _ _).alloc (Nat.le_refl _) _).alloc (by simp) _)
  have hb0 := hid (show Blk w1 w.heap.size 29 #[.int .i64 M, .slice A n c] by rw [hw1]; exact (Blk.new _ _ _).alloc _)
  have hb1 := hid (show Blk w1 (w.heap.size + 1) 29 #[.int .i64 0, .slice none 0 0] by rw [hw1]; have := Blk.new (w.alloc (.cells #[.int .i64 M, .slice A n c] 29)) 29 #[.int .i64 0, .slice none 0 0]; simpa using this)
  have hr1 := hid (h.out.below hB1.out)
  have hz1 := hid (show w1.heap.size = w.heap.size + 2 by rw [hw1]; simp)
  have hF := hid (find_any (M := M) (c := c) (hid hr1.out.1) hn hl x)
  clear hw1 hn
  cases hfi : L.findIdx? (fun e => e.key == x) with
  | none =>
    obtain ⟨hlk, hgn⟩ := goneL_none hfi
    have HLK := hid hlk
    have HGN := hid (setP_none hfi b)
    have HF : Hid (Calls Try.prog 30 #[.agg #[.int .i64 M, .slice A n c], .int .i64 x] w1 fun e w' => e = .returned (.int .i64 (-1)) ∧ Below w1.heap.size w1 w') := hid (by have := hF.out; rw [hfi] at this; exact this)
    clear hfi hlk hgn hF hnd
    go_enter Try.func16, Try.ntmps16
    go_wp2_with fail
    rw [← HW.out]
    refine HF.out.mono ?_
    rintro e w2 ⟨rfl, hb2⟩
    have b0 := hb0.out.below hb2 hb0.out.lt
    have b1 := hb1.out.below hb2 hb1.out.lt
    have c0 : w2.cell? ⟨w.heap.size, 0, none⟩ = some (.int .i64 M) := by rw [b0.cell]; rfl
    have c1 : w2.cell? ⟨w.heap.size, 1, none⟩ = some (.slice A n c) := by rw [b0.cell]; rfl
    have c2 : w2.cell? ⟨w.heap.size + 1, 0, none⟩ = some (.int .i64 0) := by rw [b1.cell]; rfl
    have c3 : w2.cell? ⟨w.heap.size + 1, 1, none⟩ = some (.slice none 0 0) := by rw [b1.cell]; rfl
    have f0 := b1.frozen 0
    have f1 := b1.frozen 1
    have hsz := hid b1.lt
    have HB2 := hid (hB1.out.trans (hb2.mono hB1.out.size))
    clear b0 b1 hb2
    go_wp2_with fail
    refine bodyPost_ret (v := .tuple #[.agg #[.int .i64 M, .slice A n c], .bool false]) ?_ rfl ⟨A, c, ?_, ?_, NewAt.refl _ _, ?_⟩
    · simp [results, Try.results16, go_sem, *]
    · rw [HLK.out, HGN.out, HN.out]; rfl
    · rw [HGN.out]; exact h.out.below ((HB2.out.setCell (by simp) _).setCell (by simp) _)
    · exact (HB2.out.setCell (by simp) _).setCell (by simp) _
  | some i =>
    obtain ⟨e, he, hk, hg⟩ := goneL_some hfi
    have hil : i < L.length := (List.getElem?_eq_some_iff.1 he).1
    have hlk : look L x = some e.g := by rw [← hk]; exact look_at hnd he
    have HLK := hid hlk
    have HGN : Hid (setP L x b = pinL L i e b) := hid (by rw [← hk]; exact setP_some hnd he b)
    have HF : Hid (Calls Try.prog 30 #[.agg #[.int .i64 M, .slice A n c], .int .i64 x] w1 fun e w' => e = .returned (.int .i64 (i : Int)) ∧ Below w1.heap.size w1 w') := hid (by have := hF.out; rw [hfi] at this; exact this)
    have hin : i < n := by rw [← HN.out]; exact hil
    have HE := hid he
    clear hfi hlk hg hF hnd he hk hil
    go_enter Try.func16, Try.ntmps16
    go_wp2_with fail
    rw [← HW.out]
    refine HF.out.mono ?_
    rintro r w2 ⟨rfl, hb2⟩
    have b0 := hid (hb0.out.below hb2 hb0.out.lt)
    have b1 := hid (hb1.out.below hb2 hb1.out.lt)
    have c0 : w2.cell? ⟨w.heap.size, 0, none⟩ = some (.int .i64 M) := by rw [b0.out.cell]; rfl
    have c1 : w2.cell? ⟨w.heap.size, 1, none⟩ = some (.slice A n c) := by rw [b0.out.cell]; rfl
    have hr2 := hid (hr1.out.below hb2)
    have HB2 := hid (hB1.out.trans (hb2.mono hB1.out.size))
    have hz2 := hid (show w.heap.size + 2 ≤ w2.heap.size by have := hz1.out; have := hb2.size; omega)
    have hs1 := hid (show (0 + n) * 32 ≤ 140737488355328 by omega)
    have hen := hid (show (ecs L).length = n * 3 by rw [ecs_length, HN.out])
    clear hb2
    go_wp2_with (at_builtin; refine wpList_appS _ rfl (.const (.slice none 0 0)) (.tmp 17) 27 59 (.agg #[.int .i64 0, .string ⟨#[]⟩, .bool false]) 3 32 rfl Try.underlying27 info59 rfl (by decide) (by decide) w2.heap.size (.slice none 0 0) 0 [] rfl (World.ownsRow_nil _ _ _ _) w2.heap.size A c n (ecs L) rfl hen.out hr2.out.1 (ecs_one L) hs1.out (Nat.le_refl _) ?_)
    intro v3 w3 hown3 hg3 _
    have hown3' : w3.ownsRow w2.heap.size 59 3 v3 n (ecs L) := by simpa using hown3
    have hb3 : Below w2.heap.size w2 w3 := (Below.refl _ _).grown hg3 (Nat.le_refl _) (by simp [Value.ownBlock])
    obtain ⟨g3, c3, hv3⟩ : ∃ g3 c3, v3 = .slice (some ⟨g3, 0, none⟩) n c3 := by
      rcases hown3'.2 with ⟨_, h0⟩ | ⟨g, cap, cur, hv, _⟩
      · omega
      · exact ⟨g, cap, hv⟩
    subst hv3
    have hg3le := own_ge hown3' g3 rfl
    obtain ⟨⟨k2, f2⟩, hown4⟩ := own_set (j := i * 3 + 2) hown3' (by omega) (.bool b)
    rw [(ecs_get L HE.out).2.2] at k2
    have b0' := hid (b0.out.below hb3 b0.out.lt)
    have b1' := hid (b1.out.below hb3 b1.out.lt)
    have d0 : w3.cell? ⟨w.heap.size, 0, none⟩ = some (.int .i64 M) := by rw [b0'.out.cell]; rfl
    have d1 : w3.cell? ⟨w.heap.size, 1, none⟩ = some (.slice A n c) := by rw [b0'.out.cell]; rfl
    have d2 : w3.cell? ⟨w.heap.size + 1, 0, none⟩ = some (.int .i64 0) := by rw [b1'.out.cell]; rfl
    have d3 : w3.cell? ⟨w.heap.size + 1, 1, none⟩ = some (.slice none 0 0) := by rw [b1'.out.cell]; rfl
    have f3 := b0'.out.frozen 1
    have f4 := b1'.out.frozen 0
    have f5 := b1'.out.frozen 1
    have hn1 : g3 ≠ w.heap.size := by have := hz2.out; omega
    have hn2 : w.heap.size ≠ g3 := by have := hz2.out; omega
    have hn3 : g3 ≠ w.heap.size + 1 := by have := hz2.out; omega
    have hn4 : w.heap.size + 1 ≠ g3 := by have := hz2.out; omega
    have hap := add_plain g3 (i * 3)
    have HO4 := hid hown4
    have HB3 := hid (HB2.out.trans (hb3.mono HB2.out.size))
    have HLE := hid hg3le
    clear hown3 hown3' hg3 hb3 hown4 c0 c1 hg3le
    go_wp2_with fail
    have hlen : (pinL L i e b).length = n := by unfold pinL; rw [List.length_set, HN.out]
    have hO := HO4.out
    rw [← ecs_pin L HE.out b, ← hlen] at hO
    have hkeep : ∀ (W : World) q, (Value.slice (some ⟨g3, 0, none⟩) (pinL L i e b).length c3).ownBlock = some q → ∀ u1 u2 u3 : Value, (((W.setCell ⟨w.heap.size, 1, none⟩ u1).setCell ⟨w.heap.size + 1, 0, none⟩ u2).setCell ⟨w.heap.size + 1, 1, none⟩ u3).heap[q]? = W.heap[q]? := fun W q hq u1 u2 u3 => by
      obtain rfl : g3 = q := Option.some.inj hq
      rw [Below.heap_setCell _ _ _ _ (show g3 ≠ w.heap.size + 1 from hn3), Below.heap_setCell _ _ _ _ (show g3 ≠ w.heap.size + 1 from hn3), Below.heap_setCell _ _ _ _ (show g3 ≠ w.heap.size from hn1)]
    refine bodyPost_ret (v := .tuple #[.agg #[.int .i64 M, .slice (some ⟨g3, 0, none⟩) n c3], .bool true]) ?_ rfl ⟨some ⟨g3, 0, none⟩, c3, ?_, ?_, fun ad had => .inr ?_, ?_⟩
    · simp [results, Try.results16, go_sem, *]
    · rw [HLK.out, HGN.out, hlen]; rfl
    · rw [HGN.out]
      exact RefAt.of_own (base := w2.heap.size) (own_ifS hO fun q hq => hkeep _ q hq _ _ _)
    · obtain rfl := Option.some.inj had
      have := HLE.out
      have := hz2.out
      show w.heap.size ≤ g3
      omega
    · exact (((HB3.out.setCell (p := ⟨g3, i * 3 + 2, none⟩) (by have := HLE.out; have := hz2.out; show w.heap.size ≤ g3; omega) _).setCell (p := ⟨w.heap.size, 1, none⟩) (by simp) _).setCell (p := ⟨w.heap.size + 1, 0, none⟩) (by simp) _).setCell (p := ⟨w.heap.size + 1, 1, none⟩) (by simp) _
end
end Go.Proofs.Ytehdclfmkeemgaa
