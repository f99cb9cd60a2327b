/- What the reference function Get of chapter 6 answers. -/
import Derived.Test.YtehdclfmkeemgaaRef3
namespace Go.Proofs.Ytehdclfmkeemgaa
open Go.RowKit
attribute [local irreducible] wpQuiet
attribute [local go_sem high] run_mxI run_mnI
theorem own_ifS {w w' : World} {base e size n : Nat} {v : Value} {xs : List Value} (h : w.ownsRow base e size v n xs) (hk : ∀ q, v.ownBlock = some q → w'.heap[q]? = w.heap[q]?) : w'.ownsRow base e size v n xs := by
  refine ⟨h.1, ?_⟩
  rcases h.2 with hn | ⟨g, cap, cur, rfl, hb, hg, r⟩
  · exact .inl hn
  · exact .inr ⟨g, cap, cur, rfl, hb, (hk g rfl).trans hg, r⟩
section
variable {w w' : World} {M : Nat} {A : Option Addr} {c n : Nat} {L : List Ent}
def GetPost (M : Nat) (A : Option Addr) (L : List Ent) (x : Int) (w : World) (e : Ending) (w' : World) : Prop :=
  ∃ A' c', e = .returned (.tuple #[.agg #[.int .i64 M, .slice A' (getL L x).length c'], .string (getV L x), .bool (look L x).isSome]) ∧ RefAt w' A' c' (getL L x) ∧ NewAt w A A' ∧ Below w.heap.size w w'
set_option maxHeartbeats 1600000 in
theorem refget_any (h : Hid (RefAt w A c L)) (hn : L.length = n) (hl : n ≤ 1000) (hnd : (keysL L).Nodup) (x : Int) :
    Calls Try.prog 14 #[.agg #[.int .i64 M, .slice A n c], .int .i64 x] w (GetPost M A L x w) := by
  have HN := hid hn
  obtain ⟨w1, hw1⟩ : ∃ w1, w1 = (w.alloc (.cells #[.int .i64 M, .slice A n c] 29)).alloc (.cells #[.int .i64 0, .slice none 0 0] 29) := ⟨_, rfl⟩
  have HW := hid hw1
  have hB1 := hid (show Below w.heap.size w w1 by rw [hw1]; exact ((Below.refl _ _).alloc (Nat.le_refl _) _).alloc (by simp) _)
  have hb0 := hid (show Blk w1 w.heap.size 29 #[.int .i64 M, .slice A n c] by rw [hw1]; exact (Blk.new _ _ _).alloc _)
  have hb1 := hid (show Blk w1 (w.heap.size + 1) 29 #[.int .i64 0, .slice none 0 0] by rw [hw1]; have := Blk.new (w.alloc (.cells #[.int .i64 M, .slice A n c] 29)) 29 #[.int .i64 0, .slice none 0 0]; simpa using this)
  have hr1 := hid (h.out.below hB1.out)
  have hz1 := hid (show w1.heap.size = w.heap.size + 2 by rw [hw1]; simp)
  have hF := hid (find_any (M := M) (c := c) (hid hr1.out.1) hn hl x)
  clear hw1 hn
  cases hfi : L.findIdx? (fun e => e.key == x) with
  | none =>
    obtain ⟨hlk, hgn⟩ := goneL_none hfi
    have HLK := hid hlk
    have HGN : Hid (getL L x = L) := hid (by unfold getL; rw [hfi])
    have HGV : Hid (getV L x = ⟨#[]⟩) := hid (by
      unfold getV
      rw [List.find?_eq_none.2 (fun z hz => by have := List.findIdx?_eq_none_iff.1 hfi z hz; simpa using this)]
      rfl)
    have HF : Hid (Calls Try.prog 30 #[.agg #[.int .i64 M, .slice A n c], .int .i64 x] w1 fun e w' => e = .returned (.int .i64 (-1)) ∧ Below w1.heap.size w1 w') := hid (by have := hF.out; rw [hfi] at this; exact this)
    clear hfi hlk hgn hF hnd
    go_enter Try.func14, Try.ntmps14
    go_wp2_with fail
    rw [← HW.out]
    refine HF.out.mono ?_
    rintro e w2 ⟨rfl, hb2⟩
    have b0 := hb0.out.below hb2 hb0.out.lt
    have b1 := hb1.out.below hb2 hb1.out.lt
    have c0 : w2.cell? ⟨w.heap.size, 0, none⟩ = some (.int .i64 M) := by rw [b0.cell]; rfl
    have c1 : w2.cell? ⟨w.heap.size, 1, none⟩ = some (.slice A n c) := by rw [b0.cell]; rfl
    have c2 : w2.cell? ⟨w.heap.size + 1, 0, none⟩ = some (.int .i64 0) := by rw [b1.cell]; rfl
    have c3 : w2.cell? ⟨w.heap.size + 1, 1, none⟩ = some (.slice none 0 0) := by rw [b1.cell]; rfl
    have f0 := b1.frozen 0
    have f1 := b1.frozen 1
    have hsz := hid b1.lt
    have HB2 := hid (hB1.out.trans (hb2.mono hB1.out.size))
    clear b0 b1 hb2
    go_wp2_with fail
    refine bodyPost_ret (v := .tuple #[.agg #[.int .i64 M, .slice A n c], .string ⟨#[]⟩, .bool false]) ?_ rfl ⟨A, c, ?_, ?_, NewAt.refl _ _, ?_⟩
    · simp [results, Try.results14, go_sem, *]
    · rw [HLK.out, HGN.out, HGV.out, HN.out]; rfl
    · rw [HGN.out]; exact h.out.below ((HB2.out.setCell (by simp) _).setCell (by simp) _)
    · exact (HB2.out.setCell (by simp) _).setCell (by simp) _
  | some i =>
    obtain ⟨e, he, hk, hg⟩ := goneL_some hfi
    have hil : i < L.length := (List.getElem?_eq_some_iff.1 he).1
    have hlk : look L x = some e.g := by rw [← hk]; exact look_at hnd he
    have HLK := hid hlk
    have HGN : Hid (getL L x = L.eraseIdx i ++ [e]) := hid (by unfold getL; rw [hfi]; simp [he])
    have HGV : Hid (getV L x = e.v) := hid (by unfold getV; rw [← hk, find_at hnd he]; rfl)
    have HF : Hid (Calls Try.prog 30 #[.agg #[.int .i64 M, .slice A n c], .int .i64 x] w1 fun e w' => e = .returned (.int .i64 (i : Int)) ∧ Below w1.heap.size w1 w') := hid (by have := hF.out; rw [hfi] at this; exact this)
    have hin : i < n := by rw [← HN.out]; exact hil
    have HE := hid he
    clear hfi hlk hg hF hnd he hk hil
    go_enter Try.func14, Try.ntmps14
    go_wp2_with fail
    rw [← HW.out]
    refine HF.out.mono ?_
    rintro r w2 ⟨rfl, hb2⟩
    have b0 := hid (hb0.out.below hb2 hb0.out.lt)
    have b1 := hid (hb1.out.below hb2 hb1.out.lt)
    have c0 : w2.cell? ⟨w.heap.size, 0, none⟩ = some (.int .i64 M) := by rw [b0.out.cell]; rfl
    have c1 : w2.cell? ⟨w.heap.size, 1, none⟩ = some (.slice A n c) := by rw [b0.out.cell]; rfl
    have hr2 := hid (hr1.out.below hb2)
    have HB2 := hid (hB1.out.trans (hb2.mono hB1.out.size))
    have hz2 := hid (show w.heap.size + 2 ≤ w2.heap.size by have := hz1.out; have := hb2.size; omega)
    have hcn := hid (show n ≤ c by have := h.out.2.1; have := HN.out; omega)
    obtain ⟨ad, hA, hab, k0, k1, k2⟩ := ent_at hr2.out.1 HE.out
    subst hA
    have hlt0 : w.heap.size < w2.heap.size := by have := hz2.out; omega
    have hlt1 : w.heap.size + 1 < w2.heap.size := by have := hz2.out; omega
    clear hb2
    go_wp2_with fail
    have hb3 := hid ((Below.refl w2.heap.size w2).alloc (Nat.le_refl _) (.cells #[.int .i64 e.key, .string e.v, .bool e.p] 59))
    have hbe := hid (Blk.new w2 59 #[.int .i64 e.key, .string e.v, .bool e.p])
    obtain ⟨w3, hw3⟩ : ∃ w3, w3 = w2.alloc (.cells #[.int .i64 e.key, .string e.v, .bool e.p] 59) := ⟨_, rfl⟩
    have hz3 : w3.heap.size = w2.heap.size + 1 := by rw [hw3]; simp
    rw [← hw3] at hb3 hbe ⊢
    clear hw3
    refine (refwithout_any (i := i) (hid (hr2.out.below hb3.out).1) HN.out hcn.out hl hin).mono ?_
    rintro r w4 ⟨A4, c4, rfl, hown, hb4⟩
    have hb24 := hid (hb3.out.trans (hb4.mono hb3.out.size))
    have hbe4 := hid (hbe.out.below hb4 hbe.out.lt)
    have b0' := hid (b0.out.below hb24.out b0.out.lt)
    have b1' := hid (b1.out.below hb24.out b1.out.lt)
    have d0 : w4.cell? ⟨w.heap.size, 0, none⟩ = some (.int .i64 M) := by rw [b0'.out.cell]; rfl
    have d1 : w4.cell? ⟨w.heap.size, 1, none⟩ = some (.slice (some ad) n c) := by rw [b0'.out.cell]; rfl
    have d2 : w4.cell? ⟨w.heap.size + 1, 0, none⟩ = some (.int .i64 0) := by rw [b1'.out.cell]; rfl
    have d3 : w4.cell? ⟨w.heap.size + 1, 1, none⟩ = some (.slice none 0 0) := by rw [b1'.out.cell]; rfl
    have e0 : w4.cell? ⟨w2.heap.size, 0, none⟩ = some (.int .i64 e.key) := by rw [hbe4.out.cell]; rfl
    have e1 : w4.cell? ⟨w2.heap.size, 1, none⟩ = some (.string e.v) := by rw [hbe4.out.cell]; rfl
    have e2 : w4.cell? ⟨w2.heap.size, 2, none⟩ = some (.bool e.p) := by rw [hbe4.out.cell]; rfl
    have f0 := b0'.out.frozen 0
    have f1 := b0'.out.frozen 1
    have f2 := b1'.out.frozen 0
    have f3 := b1'.out.frozen 1
    have hne1 : w.heap.size ≠ w2.heap.size := by have := hz2.out; omega
    have hne3 : w2.heap.size ≠ w.heap.size + 1 := by have := hz2.out; omega
    have hne2 : w2.heap.size ≠ w.heap.size := by have := hz2.out; omega
    have hsz := hid b1'.out.lt
    have HB4 := hid (HB2.out.trans (hb24.out.mono HB2.out.size))
    have HO := hid hown
    clear hown hb4 c0 c1 k0 k1 k2
    go_wp2_with fail
    obtain ⟨L1, hL1⟩ : ∃ L1, L1 = L.eraseIdx i := ⟨_, rfl⟩
    have HL1 := hid hL1
    have hl1 : L1.length ≤ 1000 := by rw [hL1, List.length_eraseIdx_of_lt (by rw [HN.out]; exact hin)]; have := HN.out; omega
    rw [← hL1] at HO ⊢
    clear hL1
    have hq0 := hid ((b0'.out.set_ 0 (.int .i64 M)).set_ 1 (.slice A4 L1.length c4))
    have hq1 := hid ((b1'.out.far (p := ⟨w.heap.size, 0, none⟩) (by simp) (.int .i64 M)).far (p := ⟨w.heap.size, 1, none⟩) (by simp) (.slice A4 L1.length c4))
    have hqe := hid ((hbe4.out.far (p := ⟨w.heap.size, 0, none⟩) hne2 (.int .i64 M)).far (p := ⟨w.heap.size, 1, none⟩) hne2 (.slice A4 L1.length c4))
    have hO5 := ownsRow_setCell_below (ownsRow_setCell_below HO.out (a := ⟨w.heap.size, 0, none⟩) (by show w.heap.size < w3.heap.size; omega) (.int .i64 M)) (a := ⟨w.heap.size, 1, none⟩) (by show w.heap.size < w3.heap.size; omega) (.slice A4 L1.length c4)
    have HB5 := hid ((HB4.out.setCell (p := ⟨w.heap.size, 0, none⟩) (Nat.le_refl _) (.int .i64 M)).setCell (p := ⟨w.heap.size, 1, none⟩) (Nat.le_refl _) (.slice A4 L1.length c4))
    have hz5 : w2.heap.size < ((w4.setCell ⟨w.heap.size, 0, none⟩ (.int .i64 M)).setCell ⟨w.heap.size, 1, none⟩ (.slice A4 L1.length c4)).heap.size := hqe.out.lt
    obtain ⟨w5, hw5⟩ : ∃ w5, w5 = (w4.setCell ⟨w.heap.size, 0, none⟩ (.int .i64 M)).setCell ⟨w.heap.size, 1, none⟩ (.slice A4 L1.length c4) := ⟨_, rfl⟩
    rw [← hw5] at hq0 hq1 hqe hO5 HB5 hz5 ⊢
    clear hw5 d0 d1 d2 d3 e0 e1 e2 f0 f1 f2 f3
    have hr5 := hid (RefAt.of_own hO5)
    clear hO5
    have d0 : w5.cell? ⟨w.heap.size, 0, none⟩ = some (.int .i64 M) := by rw [hq0.out.cell]; rfl
    have d1 : w5.cell? ⟨w.heap.size, 1, none⟩ = some (.slice A4 L1.length c4) := by rw [hq0.out.cell]; rfl
    have e0 : w5.cell? ⟨w2.heap.size, 0, none⟩ = some (.int .i64 e.key) := by rw [hqe.out.cell]; rfl
    have e1 : w5.cell? ⟨w2.heap.size, 1, none⟩ = some (.string e.v) := by rw [hqe.out.cell]; rfl
    have e2 : w5.cell? ⟨w2.heap.size, 2, none⟩ = some (.bool e.p) := by rw [hqe.out.cell]; rfl
    have hlt5 : w.heap.size < w5.heap.size := by omega
    have hs1 := hid (show (0 + L1.length) * 32 ≤ 140737488355328 by omega)
    have hs2 := hid (show (0 + L1.length + 1) * 32 ≤ 140737488355328 by omega)
    have hone : Hid (∀ u ∈ [Value.int .i64 e.key, .string e.v, .bool e.p], u.oneCell' = true) := hid (by intro u hu; simp at hu; rcases hu with rfl | rfl | rfl <;> rfl)
    go_region_law (first | (refine step_appS _ rfl (.const (.slice none 0 0)) (.tmp 24) 27 59 (.agg #[.int .i64 0, .string ⟨#[]⟩, .bool false]) 3 32 rfl Try.underlying27 info59 rfl (by decide) (by decide) w5.heap.size (.slice none 0 0) 0 [] rfl (World.ownsRow_nil _ _ _ _) w5.heap.size A4 c4 L1.length (ecs L1) rfl (ecs_length L1) (by exact hr5.out.1.below (Below.refl _ _).drew) (ecs_one L1) hs1.out (Nat.le_refl _) ?_; intro v6 w6 hown6 hg6 hat6; clear hat6; have HB6 : Hid (Below w5.heap.size w5 w6) := hid ((Below.refl _ _).drew.grown hg6 (Nat.le_refl _) (by simp [Value.ownBlock])); have HO6 := hid hown6; have e0 : w6.cell? ⟨w2.heap.size, 0, none⟩ = some (.int .i64 e.key) := (HB6.out.cell (by simp; omega)).trans (by rw [hqe.out.cell]; rfl); have e1 : w6.cell? ⟨w2.heap.size, 1, none⟩ = some (.string e.v) := (HB6.out.cell (by simp; omega)).trans (by rw [hqe.out.cell]; rfl); have e2 : w6.cell? ⟨w2.heap.size, 2, none⟩ = some (.bool e.p) := (HB6.out.cell (by simp; omega)).trans (by rw [hqe.out.cell]; rfl); clear hown6 hg6) | (refine step_appS _ rfl (.const (.slice none 0 0)) (.tmp 24) 27 59 (.agg #[.int .i64 0, .string ⟨#[]⟩, .bool false]) 3 32 rfl Try.underlying27 info59 rfl (by decide) (by decide) (w5.heap.size + 1) (.slice none 0 0) 0 [] rfl (World.ownsRow_nil _ _ _ _) w5.heap.size A4 c4 L1.length (ecs L1) rfl (ecs_length L1) (by exact hr5.out.1.below ((Below.refl _ _).drew.alloc (Nat.le_refl _) (.cells #[.int .i64 e.key, .string e.v, .bool e.p] 59))) (ecs_one L1) hs1.out (by simp) ?_; intro v6 w6 hown6 hg6 hat6; clear hat6; have HK6 : Hid (Blk w6 w5.heap.size 59 #[.int .i64 e.key, .string e.v, .bool e.p]) := hid ((hg6.block _ (by simp) (by simp [Value.ownBlock])).trans (Blk.new w5.drew 59 #[.int .i64 e.key, .string e.v, .bool e.p])); have HB6 : Hid (Below w5.heap.size w5 w6) := hid (((Below.refl _ _).drew.alloc (Nat.le_refl _) _).grown hg6 (by simp) (by simp [Value.ownBlock])); have hown6 := own_lower hown6 (Nat.le_succ w5.heap.size); have HO6 := hid hown6; have e0 : w6.cell? ⟨w2.heap.size, 0, none⟩ = some (.int .i64 e.key) := (HB6.out.cell (by simp; omega)).trans (by rw [hqe.out.cell]; rfl); have e1 : w6.cell? ⟨w2.heap.size, 1, none⟩ = some (.string e.v) := (HB6.out.cell (by simp; omega)).trans (by rw [hqe.out.cell]; rfl); have e2 : w6.cell? ⟨w2.heap.size, 2, none⟩ = some (.bool e.p) := (HB6.out.cell (by simp; omega)).trans (by rw [hqe.out.cell]; rfl); clear hown6 hg6) | (refine step_appS _ rfl (.tmp 25) (.tmp 27) 27 59 (.agg #[.int .i64 0, .string ⟨#[]⟩, .bool false]) 3 32 rfl Try.underlying27 info59 rfl (by decide) (by decide) w5.heap.size v6 (0 + L1.length) (ecs L1) rfl (by exact HO6.out.alloc _) _ (some ⟨w6.heap.size, 0, none⟩) 1 1 [.int .i64 e.key, .string e.v, .bool e.p] rfl rfl (by exact Holds.of_blk (Blk.new w6 59 #[.int .i64 e.key, .string e.v, .bool e.p]) 0 3 (Nat.lt_succ_self _)) hone.out hs2.out (by have := HB6.out.size; simp; omega) ?_; intro v7 w7 hown7 hg7 hat7; clear hat7; obtain ⟨A7, c7, hv7⟩ := own_form hown7; subst hv7; have HO7 := hid hown7; have HB7 : Hid (Below w5.heap.size w5 w7) := hid ((HB6.out.alloc HB6.out.size _).grown hg7 (by have := HB6.out.size; simp; omega) (own_ge HO6.out)); have f8 : w7.frozen? ⟨w.heap.size, 1, none⟩ = false := (HB7.out.frozen (by simp; omega)).trans (hq0.out.frozen 1); have d8 : w7.cell? ⟨w.heap.size, 0, none⟩ = some (.int .i64 M) := (HB7.out.cell (by simp; omega)).trans (by rw [hq0.out.cell]; rfl); have d9 : w7.cell? ⟨w.heap.size, 1, none⟩ = some (.slice A4 L1.length c4) := (HB7.out.cell (by simp; omega)).trans (by rw [hq0.out.cell]; rfl); have d10 : w7.cell? ⟨w.heap.size + 1, 0, none⟩ = some (.int .i64 0) := (HB7.out.cell (by simp; omega)).trans (by rw [hq1.out.cell]; rfl); have d11 : w7.cell? ⟨w.heap.size + 1, 1, none⟩ = some (.slice none 0 0) := (HB7.out.cell (by simp; omega)).trans (by rw [hq1.out.cell]; rfl); have f10 : w7.frozen? ⟨w.heap.size + 1, 0, none⟩ = false := (HB7.out.frozen (by simp; omega)).trans (hq1.out.frozen 0); have f11 : w7.frozen? ⟨w.heap.size + 1, 1, none⟩ = false := (HB7.out.frozen (by simp; omega)).trans (hq1.out.frozen 1); have e8 : w7.cell? ⟨w2.heap.size, 1, none⟩ = some (.string e.v) := (HB7.out.cell (by simp; omega)).trans (by rw [hqe.out.cell]; rfl); clear hown7 hg7) | (refine step_appS _ rfl (.tmp 25) (.tmp 27) 27 59 (.agg #[.int .i64 0, .string ⟨#[]⟩, .bool false]) 3 32 rfl Try.underlying27 info59 rfl (by decide) (by decide) w5.heap.size v6 (0 + L1.length) (ecs L1) rfl (by exact HO6.out) _ (some ⟨w5.heap.size, 0, none⟩) 1 1 [.int .i64 e.key, .string e.v, .bool e.p] rfl rfl (by exact Holds.of_blk HK6.out 0 3 (Nat.lt_succ_self _)) hone.out hs2.out (by exact HB6.out.size) ?_; intro v7 w7 hown7 hg7 hat7; clear hat7; obtain ⟨A7, c7, hv7⟩ := own_form hown7; subst hv7; have HO7 := hid hown7; have HB7 : Hid (Below w5.heap.size w5 w7) := hid (HB6.out.grown hg7 HB6.out.size (own_ge HO6.out)); have f8 : w7.frozen? ⟨w.heap.size, 1, none⟩ = false := (HB7.out.frozen (by simp; omega)).trans (hq0.out.frozen 1); have d8 : w7.cell? ⟨w.heap.size, 0, none⟩ = some (.int .i64 M) := (HB7.out.cell (by simp; omega)).trans (by rw [hq0.out.cell]; rfl); have d9 : w7.cell? ⟨w.heap.size, 1, none⟩ = some (.slice A4 L1.length c4) := (HB7.out.cell (by simp; omega)).trans (by rw [hq0.out.cell]; rfl); have d10 : w7.cell? ⟨w.heap.size + 1, 0, none⟩ = some (.int .i64 0) := (HB7.out.cell (by simp; omega)).trans (by rw [hq1.out.cell]; rfl); have d11 : w7.cell? ⟨w.heap.size + 1, 1, none⟩ = some (.slice none 0 0) := (HB7.out.cell (by simp; omega)).trans (by rw [hq1.out.cell]; rfl); have f10 : w7.frozen? ⟨w.heap.size + 1, 0, none⟩ = false := (HB7.out.frozen (by simp; omega)).trans (hq1.out.frozen 0); have f11 : w7.frozen? ⟨w.heap.size + 1, 1, none⟩ = false := (HB7.out.frozen (by simp; omega)).trans (hq1.out.frozen 1); have e8 : w7.cell? ⟨w2.heap.size, 1, none⟩ = some (.string e.v) := (HB7.out.cell (by simp; omega)).trans (by rw [hqe.out.cell]; rfl); clear hown7 hg7))
    all_goals go_wp2_with fail
    all_goals go_region
    all_goals go_wp2_with fail
    all_goals
      have hlen : (L1 ++ [e]).length = L1.length + 1 := by simp
      have hown8 := HO7.out
      rw [Nat.zero_add, show ecs L1 ++ [Value.int .i64 e.key, .string e.v, .bool e.p] = ecs (L1 ++ [e]) by rw [ecs_append]; rfl, ← hlen] at hown8
      have hkeep : ∀ q, (Value.slice A7 (L1 ++ [e]).length c7).ownBlock = some q → ∀ u1 u2 u3 : Value, (((w7.setCell ⟨w.heap.size, 1, none⟩ u1).setCell ⟨w.heap.size + 1, 0, none⟩ u2).setCell ⟨w.heap.size + 1, 1, none⟩ u3).heap[q]? = w7.heap[q]? := fun q hq u1 u2 u3 => by
        have := own_ge hown8 q hq
        have := hz2.out
        rw [Below.heap_setCell _ _ _ _ (show q ≠ w.heap.size + 1 by omega), Below.heap_setCell _ _ _ _ (show q ≠ w.heap.size + 1 by omega), Below.heap_setCell _ _ _ _ (show q ≠ w.heap.size by omega)]
      refine bodyPost_ret (v := .tuple #[.agg #[.int .i64 M, .slice A7 (0 + L1.length + 1) c7], .string e.v, .bool true]) ?_ rfl ⟨A7, c7, ?_, ?_, NewAt.of_own hown8 (by omega), ?_⟩
      · simp [results, Try.results14, go_sem, *]
      · rw [HLK.out, HGN.out, HGV.out, ← HL1.out, hlen, Nat.zero_add]; rfl
      · rw [HGN.out, ← HL1.out]
        exact RefAt.of_own (base := w5.heap.size) (own_ifS hown8 fun q hq => hkeep q hq _ _ _)
      · have hb7 := HB5.out.trans (HB7.out.mono HB5.out.size)
        exact (((hb7.setCell (p := ⟨w.heap.size, 1, none⟩) (by simp) _).drew.setCell (p := ⟨w.heap.size + 1, 0, none⟩) (by simp) _).setCell (p := ⟨w.heap.size + 1, 1, none⟩) (by simp) _)
end
end Go.Proofs.Ytehdclfmkeemgaa
