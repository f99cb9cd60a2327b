/- servers: Get. -/
import Derived.Test.YtopbojifllnckaaGreatDoorG26
namespace Go.Proofs.YtopbojifllnckaaGreatDoor
open Go.RowKit
attribute [local irreducible] wpQuiet
section
variable {w w' : World} {sg i v d g : Nat} {down lost : Bool}
set_option maxRecDepth 100000 in
set_option maxHeartbeats 1600000 in
theorem sGet_with (h : SrvAt w sg i v d g false false) (st ix : Int) (s : ByteArray) (er : Int) (hget : ∀ W2, Below w.heap.size w W2 → Calls Tryz.prog 244 #[.pointer (some ⟨g, 0, none⟩), .agg #[.int .i64 st, .int .i64 ix]] W2 fun e w' => e = .returned (.tuple #[.string s, .int .i64 er]) ∧ Below W2.heap.size W2 w') :
    Calls Tryz.prog 184 #[.pointer (some ⟨sg, 0, none⟩), .int .i64 i, .agg #[.int .i64 st, .int .i64 ix]] w fun e w' => e = .returned (.tuple #[.string s, .int .i64 er]) ∧ Below w.heap.size w w' := by
  have hmf : ∀ (fn : Fn) (first cap : Array Value) (w : World), (Instr.makeFunc fn first cap).run Tryz.prog w = .ok (.func fn first cap) w := fun _ _ _ _ => rfl
  obtain ⟨W, hW⟩ : ∃ W, W = ((w.alloc (.cells #[.int .i64 st, .int .i64 ix] 122)).alloc (.cells #[.string ⟨#[]⟩] 9)).alloc (.cells #[.int .i64 0] 31) := ⟨_, rfl⟩
  have hs1 : (w.alloc (.cells #[.int .i64 st, .int .i64 ix] 122)).heap.size = w.heap.size + 1 := by simp
  have hs2 : ((w.alloc (.cells #[.int .i64 st, .int .i64 ix] 122)).alloc (.cells #[.string ⟨#[]⟩] 9)).heap.size = w.heap.size + 2 := by simp
  have hbb : Below w.heap.size w W := by rw [hW]; exact (((Below.refl _ _).alloc (Nat.le_refl _) _).alloc (by omega) _).alloc (by omega) _
  have hB0 : Blk W w.heap.size 122 #[.int .i64 st, .int .i64 ix] := by rw [hW]; exact ((Blk.new w 122 _).alloc _).alloc _
  have hB1 : Blk W (w.heap.size + 1) 9 #[.string ⟨#[]⟩] := by rw [hW, ← hs1]; exact (Blk.new _ 9 _).alloc _
  have hB2 : Blk W (w.heap.size + 2) 31 #[.int .i64 0] := by rw [hW, ← hs2]; exact Blk.new _ 31 _
  have x0 : W.cell? ⟨w.heap.size, 0, none⟩ = some (.int .i64 st) := (hB0.cell 0).trans rfl
  have x1 : W.cell? ⟨w.heap.size, 1, none⟩ = some (.int .i64 ix) := (hB0.cell 1).trans rfl
  obtain ⟨y, hy⟩ : ∃ y, y = w.heap.size + 1 := ⟨_, rfl⟩
  obtain ⟨z, hz⟩ : ∃ z, z = w.heap.size + 2 := ⟨_, rfl⟩
  rw [← hy] at hB1
  rw [← hz] at hB2
  have hne : w.heap.size ≠ z := by omega
  have hne2 : z ≠ w.heap.size := by omega
  have hne3 : w.heap.size ≠ y := by omega
  have hne4 : y ≠ w.heap.size := by omega
  have hne5 : y ≠ z := by omega
  have hne6 : z ≠ y := by omega
  have hcall : Hid (∀ W2, Below W.heap.size W W2 → Calls Tryz.prog 180 #[.pointer (some ⟨sg, 0, none⟩), .int .i64 i] W2 fun e w' => e = .returned (.pointer (some ⟨g, 0, none⟩)) ∧ W2 = w') := fun W2 hb2 => store_ok ((h.below hbb).below hb2)
  have hgt : Hid (∀ W2, Below W.heap.size W W2 → Calls Tryz.prog 244 #[.pointer (some ⟨g, 0, none⟩), .agg #[.int .i64 st, .int .i64 ix]] W2 fun e w' => e = .returned (.tuple #[.string s, .int .i64 er]) ∧ (w'.cell? ⟨w.heap.size, 0, none⟩ = some (.int .i64 st) ∧ w'.cell? ⟨w.heap.size, 1, none⟩ = some (.int .i64 ix)) ∧ w'.cell? ⟨y, 0, none⟩ = some (.string ⟨#[]⟩) ∧ w'.frozen? ⟨y, 0, none⟩ = false ∧ w'.cell? ⟨z, 0, none⟩ = some (.int .i64 0) ∧ w'.frozen? ⟨z, 0, none⟩ = false ∧ Hid (Below w.heap.size w w')) := by
    show ∀ W2, _
    intro W2 hb2
    have hb3 := hbb.trans (hb2.mono hbb.size)
    refine (hget W2 hb3).mono ?_
    rintro e w' ⟨he, hb4⟩
    have k0 := (hB0.below hb2 hB0.lt).below hb4 (hB0.below hb2 hB0.lt).lt
    have k1 := (hB1.below hb2 hB1.lt).below hb4 (hB1.below hb2 hB1.lt).lt
    have k2 := (hB2.below hb2 hB2.lt).below hb4 (hB2.below hb2 hB2.lt).lt
    exact ⟨he, ⟨(k0.cell 0).trans rfl, (k0.cell 1).trans rfl⟩, (k1.cell 0).trans rfl, k1.frozen 0, (k2.cell 0).trans rfl, k2.frozen 0, hb3.trans (hb4.mono hb3.size)⟩
  have hD0 : Hid (Below W.heap.size W W.drew) := (Below.refl _ _).drew
  have HE := hid (And.intro hy hz)
  have HL : Hid (w.heap.size ≤ y ∧ w.heap.size ≤ z) := ⟨by omega, by omega⟩
  clear hbb hB0 hB1 hB2 h hs1 hs2 hy hz hget
  go_enter_defers Tryz.func184, Tryz.ntmps184
  go_upto_region 2 with (fail)
  rw [← hW, show w.heap.size + 1 + 1 = z by have := HE.out.2; omega, ← HE.out.1]
  clear hW HE
  go_region_held3 (fun w' => w'.cell? ⟨w.heap.size, 0, none⟩ = some (.int .i64 st) ∧ w'.cell? ⟨w.heap.size, 1, none⟩ = some (.int .i64 ix)) (first | (with_reducible exact hS) | (with_reducible exact ⟨cell1 hne _ hS.1, cell1 hne _ hS.2⟩) | (with_reducible exact ⟨cell1 hne3 _ hS.1, cell1 hne3 _ hS.2⟩) | (with_reducible exact ⟨cell1 hne _ (cell1 hne3 _ hS.1), cell1 hne _ (cell1 hne3 _ hS.2)⟩) | (with_reducible exact ⟨cell1 hne3 _ (cell1 hne _ hS.1), cell1 hne3 _ (cell1 hne _ hS.2)⟩) | (with_reducible exact ⟨x0, x1⟩) | go_keep) ((first
    | (go_at_call 180; with_reducible refine (hcall.out _ hD0.out).mono ?_; rintro e0 w' ⟨rfl, rfl⟩)
    | (go_at_call 244; with_reducible refine (hgt.out _ hD0.out).mono ?_; rintro e0 w2 ⟨rfl, hS, y0, v0, z0, u0, hX⟩)))
  all_goals
    have hf1 : Hid (Below w.heap.size w ((w2.setCell ⟨y, 0, none⟩ (.string s)).setCell ⟨z, 0, none⟩ (.int .i64 er))) := (hX.out.setCell (p := ⟨y, 0, none⟩) HL.out.1 _).setCell (p := ⟨z, 0, none⟩) HL.out.2 _
    have hf2 : Hid (Below w.heap.size w ((w2.setCell ⟨z, 0, none⟩ (.int .i64 er)).setCell ⟨y, 0, none⟩ (.string s))) := (hX.out.setCell (p := ⟨z, 0, none⟩) HL.out.2 _).setCell (p := ⟨y, 0, none⟩) HL.out.1 _
    clear hX
    go_wp2_with fail
    refine leaves_cons (f := 243) (args := #[.pointer (some ⟨y, 0, none⟩), .pointer (some ⟨z, 0, none⟩)]) (by simp) (by simp [go_sem]) ?_
    refine (catch243 _ _ _).mono ?_
    rintro e u' w'' ⟨⟨v9, rfl⟩, rfl, rfl⟩
    first
    | (simp [Leaves, settle, results, Tryz.results184, go_sem, y0, z0]; exact hf1.out)
    | (simp [Leaves, settle, results, Tryz.results184, go_sem, y0, z0]; exact hf2.out)
    | (simp [Leaves, settle, results, Tryz.results184, go_sem, y0, z0, hne5]; exact hf1.out)
    | (simp [Leaves, settle, results, Tryz.results184, go_sem, y0, z0, hne5]; exact hf2.out)
    | (simp [Leaves, settle, results, Tryz.results184, go_sem, y0, z0, hne6]; exact hf1.out)
    | (simp [Leaves, settle, results, Tryz.results184, go_sem, y0, z0, hne6]; exact hf2.out)
end
end Go.Proofs.YtopbojifllnckaaGreatDoor
