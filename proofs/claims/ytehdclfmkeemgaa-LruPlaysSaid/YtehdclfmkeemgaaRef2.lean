/- What the reference functions of chapter 6 answer: those that make a cache anew. -/
import Derived.Test.YtehdclfmkeemgaaRef
namespace Go.Proofs.Ytehdclfmkeemgaa
open Go.RowKit
attribute [local irreducible] wpQuiet
attribute [local go_sem high] run_mxI run_mnI

theorem info59 : (Try.prog.info? 59).map (fun i => (i.zero, i.size, i.bytes)) = some (some (.agg #[.int .i64 0, .string ⟨#[]⟩, .bool false]), 3, 32) := by kernel_rfl
theorem cut_holds {w : World} {B : Nat} {A : Option Addr} {xs : List Value} {n c m size : Nat} (h : Holds w B A xs) (hx : xs.length = n * size) (hc : n ≤ c) (hm : m ≤ n) :
    Holds w B (if c = m then A else Option.map (fun x => x.add (m * size)) A) (xs.drop (m * size)) := by
  intro hn
  rw [List.length_drop] at hn
  obtain ⟨ad, rfl, hb, hcell⟩ := h (by omega)
  have hne : c ≠ m := fun e => by
    have : n = m := by omega
    subst this
    omega
  rw [if_neg hne]
  refine ⟨ad.add (m * size), rfl, by rw [block_add]; exact hb, fun j u hu => ?_⟩
  rw [Go.Deep.add_add]
  exact hcell _ u (by rw [← hu, List.getElem?_drop])
theorem Holds.take {w : World} {B : Nat} {A : Option Addr} {xs : List Value} (h : Holds w B A xs) (n : Nat) : Holds w B A (xs.take n) := fun hn => by
  rw [List.length_take] at hn
  obtain ⟨ad, rfl, hb, hc⟩ := h (by omega)
  refine ⟨ad, rfl, hb, fun j u hu => hc j u ?_⟩
  rw [List.getElem?_take] at hu
  split at hu
  · exact hu
  · cases hu

section
variable {w : World} {M : Nat} {A : Option Addr} {c n : Nat} {L : List Ent}
set_option maxHeartbeats 800000 in
theorem refwithout_any {i : Nat} (h : Hid (Holds w w.heap.size A (ecs L))) (hn : L.length = n) (hc : n ≤ c) (hl : n ≤ 1000) (hi : i < n) :
    Calls Try.prog 27 #[.agg #[.int .i64 M, .slice A n c], .int .i64 i] w fun e w' => ∃ A' c', e = .returned (.agg #[.int .i64 M, .slice A' (L.eraseIdx i).length c']) ∧
      w'.ownsRow w.heap.size 59 3 (.slice A' (L.eraseIdx i).length c') (L.eraseIdx i).length (ecs (L.eraseIdx i)) ∧ Below w.heap.size w w' := by
  have HN := hid hn
  obtain ⟨w1, hw1⟩ : ∃ w1, w1 = (w.alloc (.cells #[.int .i64 M, .slice A n c] 29)).alloc (.cells #[.int .i64 0, .slice none 0 0] 29) := ⟨_, rfl⟩
  have HW := hid hw1
  have hB1 := hid (show Below w.heap.size w w1 by rw [hw1]; exact ((Below.refl _ _).alloc (Nat.le_refl _) _).alloc (by simp) _)
  have hb0 := hid (show Blk w1 w.heap.size 29 #[.int .i64 M, .slice A n c] by rw [hw1]; exact (Blk.new _ _ _).alloc _)
  have hb1 := hid (show Blk w1 (w.heap.size + 1) 29 #[.int .i64 0, .slice none 0 0] by rw [hw1]; have := Blk.new (w.alloc (.cells #[.int .i64 M, .slice A n c] 29)) 29 #[.int .i64 0, .slice none 0 0]; simpa using this)
  have hr1 := hid (h.out.below hB1.out)
  have hz1 := hid (show w1.heap.size = w.heap.size + 2 by rw [hw1]; simp)
  have hA2 := hid (cut_holds (n := n) (c := c) (m := i + 1) (size := 3) hr1.out (by rw [ecs_length, hn]) hc (by omega))
  have hwi : IntKind.i64.wrap ((i : Int) + 1) = (i : Int) + 1 := by rw [IntKind.wrap_i64]; omega
  have hx0 : (0 : Int) ≤ (i : Int) + 1 := by omega
  have hx1 : (i : Int) + 1 ≤ (n : Int) := by omega
  have hl1 := hid (show ((ecs L).take (i * 3)).length = i * 3 by rw [List.length_take, ecs_length]; omega)
  have hl2 := hid (show ((ecs L).drop ((i + 1) * 3)).length = (n - (i + 1)) * 3 by rw [List.length_drop, ecs_length, hn]; omega)
  have hic : i ≤ c := by omega
  clear hw1 hn
  go_enter Try.func27, Try.ntmps27
  go_wp2_with fail
  rw [← HW.out]
  have c1 : w1.cell? ⟨w.heap.size, 1, none⟩ = some (.slice A n c) := by rw [hb0.out.cell]; rfl
  have hs1 := hid (show (0 + i) * 32 ≤ 140737488355328 by omega)
  have hs2 := hid (show (0 + i + (n - (i + 1))) * 32 ≤ 140737488355328 by omega)
  have ho1 := hid (fun u (hu : u ∈ (ecs L).take (i * 3)) => ecs_one L u (List.mem_of_mem_take hu))
  have ho2 := hid (fun u (hu : u ∈ (ecs L).drop ((i + 1) * 3)) => ecs_one L u (List.mem_of_mem_drop hu))
  have hD1 := hid (hr1.out.take (i * 3))
  go_region_law (first | (refine step_appS _ rfl (.const (.slice none 0 0)) (.tmp 8) 27 59 (.agg #[.int .i64 0, .string ⟨#[]⟩, .bool false]) 3 32 rfl Try.underlying27 info59 rfl (by decide) (by decide) (w.heap.size + 2) (.slice none 0 0) 0 [] rfl (World.ownsRow_nil _ _ _ _) w.heap.size A c i ((ecs L).take (i * 3)) rfl hl1.out (by exact hD1.out.below (Below.refl _ _).drew) ho1.out hs1.out (by have := hz1.out; show w.heap.size + 2 ≤ w1.heap.size; omega) ?_; intro v2 w2 hown2 hg2 hat2; clear hat2; have HO2 := hid hown2; have HB2 : Hid (Below (w.heap.size + 2) w1 w2) := hid ((Below.refl _ _).drew.grown hg2 (by have := hz1.out; show w.heap.size + 2 ≤ w1.heap.size; omega) (by simp [Value.ownBlock])); have c2 : w2.cell? ⟨w.heap.size, 1, none⟩ = some (.slice A n c) := (HB2.out.cell (by simp)).trans c1; have f2 : w2.frozen? ⟨w.heap.size, 1, none⟩ = false := (HB2.out.frozen (by simp)).trans (hb0.out.frozen 1); clear hown2 hg2) | (refine step_appS _ rfl (.tmp 9) (.tmp 14) 27 59 (.agg #[.int .i64 0, .string ⟨#[]⟩, .bool false]) 3 32 rfl Try.underlying27 info59 rfl (by decide) (by decide) (w.heap.size + 2) v2 (0 + i) ((ecs L).take (i * 3)) rfl HO2.out w.heap.size (if c = i + 1 then A else Option.map (fun x => x.add ((i + 1) * 3)) A) (c - (i + 1)) (n - (i + 1)) ((ecs L).drop ((i + 1) * 3)) rfl hl2.out (by exact hA2.out.below (HB2.out.mono (by omega))) ho2.out hs2.out (by have := hz1.out; have := HB2.out.size; omega) ?_; intro v3 w3 hown3 hg3 hat3; clear hat3; obtain ⟨A3, c3, hv3⟩ := own_form hown3; subst hv3; have HO3 := hid hown3; have HB3 : Hid (Below (w.heap.size + 2) w1 w3) := hid (HB2.out.grown hg3 (by have := hz1.out; have := HB2.out.size; omega) (own_ge HO2.out)); have f3 : w3.frozen? ⟨w.heap.size, 1, none⟩ = false := (HB3.out.frozen (by simp)).trans (hb0.out.frozen 1); have d0 : w3.cell? ⟨w.heap.size, 0, none⟩ = some (.int .i64 M) := (HB3.out.cell (by simp)).trans (by rw [hb0.out.cell]; rfl); have d1 : w3.cell? ⟨w.heap.size, 1, none⟩ = some (.slice A n c) := (HB3.out.cell (by simp)).trans (by rw [hb0.out.cell]; rfl); have b1 := hb1.out.below HB3.out (by omega); have d2 : w3.cell? ⟨w.heap.size + 1, 0, none⟩ = some (.int .i64 0) := (by rw [b1.cell]; rfl); have d3 : w3.cell? ⟨w.heap.size + 1, 1, none⟩ = some (.slice none 0 0) := (by rw [b1.cell]; rfl); have f4 := b1.frozen 0; have f5 := b1.frozen 1; have hsz := hid b1.lt; clear b1 hown3 hg3))
  all_goals go_wp2_with fail
  all_goals
    refine bodyPost_ret (v := .agg #[.int .i64 M, .slice A3 (0 + i + (n - (i + 1))) c3]) ?_ rfl ?_
    · simp [results, Try.results27, go_sem, *]
    · have hlen : (L.eraseIdx i).length = 0 + i + (n - (i + 1)) := by rw [List.length_eraseIdx_of_lt (by rw [HN.out]; exact hi), HN.out]; omega
      refine ⟨A3, c3, by rw [hlen], ?_, ?_⟩
      · rw [hlen, List.eraseIdx_eq_take_drop_succ, ecs_append, ecs_take, ecs_drop]
        exact own_lower (ownsRow_setCell_below (ownsRow_setCell_below (ownsRow_setCell_below HO3.out (by simp) _) (by simp) _) (by simp) _) (by omega)
      · exact (((hB1.out.trans (HB3.out.mono (by omega))).setCell (by simp) _).setCell (by simp) _).setCell (by simp) _
end
end Go.Proofs.Ytehdclfmkeemgaa
