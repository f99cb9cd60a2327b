/- servers: Put and Get at a server that is down. -/
import Derived.Test.YtopbojifllnckaaGreatDoorG27
namespace Go.Proofs.YtopbojifllnckaaGreatDoor
open Go.RowKit
attribute [local irreducible] wpQuiet
section
variable {w w' : World} {sg i v d g : Nat} {down lost : Bool}
set_option maxRecDepth 100000 in
set_option maxHeartbeats 1600000 in
theorem sPut_down (h : SrvAt w sg i v d g down lost) (hdl : (down || lost) = true) (st ix : Int) (body : ByteArray) :
    Calls Tryz.prog 113 #[.pointer (some ⟨sg, 0, none⟩), .int .i64 i, .agg #[.int .i64 st, .int .i64 ix], .string body] w fun e w' => e = .returned (.int .i64 8) ∧ Below w.heap.size w w' := by
  have hmf : ∀ (fn : Fn) (first cap : Array Value) (w : World), (Instr.makeFunc fn first cap).run Tryz.prog w = .ok (.func fn first cap) w := fun _ _ _ _ => rfl
  obtain ⟨W, hW⟩ : ∃ W, W = (w.alloc (.cells #[.int .i64 st, .int .i64 ix] 122)).alloc (.cells #[.int .i64 0] 31) := ⟨_, rfl⟩
  have hsz : (w.alloc (.cells #[.int .i64 st, .int .i64 ix] 122)).heap.size = w.heap.size + 1 := by simp
  have hb : Below w.heap.size w W := by rw [hW]; exact ((Below.refl _ _).alloc (Nat.le_refl _) _).alloc (by omega) _
  have hB0 : Blk W w.heap.size 122 #[.int .i64 st, .int .i64 ix] := by rw [hW]; exact (Blk.new w 122 _).alloc _
  have hB1 : Blk W (w.heap.size + 1) 31 #[.int .i64 0] := by rw [hW, ← hsz]; exact Blk.new _ 31 _
  have x0 : W.cell? ⟨w.heap.size, 0, none⟩ = some (.int .i64 st) := (hB0.cell 0).trans rfl
  have x1 : W.cell? ⟨w.heap.size, 1, none⟩ = some (.int .i64 ix) := (hB0.cell 1).trans rfl
  have hD := h.below hb
  have hcall : Hid (∀ W2, Below W.heap.size W W2 → Calls Tryz.prog 180 #[.pointer (some ⟨sg, 0, none⟩), .int .i64 i] W2 fun e w' => e = downE ∧ W2 = w') := fun W2 hb2 => store_down (hD.below hb2) hdl
  have hD0 : Hid (Below W.heap.size W W.drew) := (Below.refl _ _).drew
  have hleaf : Hid (∀ tm : Array Value, tm[8]? = some (.pointer (some ⟨w.heap.size + 1, 0, none⟩)) → Leaves Tryz.prog Tryz.f113 tm (fun e w' => e = .returned (.int .i64 8) ∧ Below w.heap.size w w') [{ target := .fn (.func 178) #[.pointer (some ⟨w.heap.size + 1, 0, none⟩)], args := #[] }] (.panicking [{ v := .iface 31 (.int .i64 8), recovered := false }]) W.drew) := by
    show ∀ tm : Array Value, _
    intro tm htm
    have hf : Below w.heap.size w (W.drew.setCell ⟨w.heap.size + 1, 0, none⟩ (.int .i64 8)) := hb.drew.setCell (p := ⟨w.heap.size + 1, 0, none⟩) (Nat.le_succ _) _
    have z0 : W.drew.cell? ⟨w.heap.size + 1, 0, none⟩ = some (.int .i64 0) := (hB1.drew.cell 0).trans rfl
    refine leaves_cons (f := 178) (args := #[.pointer (some ⟨w.heap.size + 1, 0, none⟩)]) (by simp) (by simp [go_sem]) ?_
    refine (raised178 _ _ _ z0 (hB1.drew.frozen 0) []).mono ?_
    rintro e u' w'' ⟨⟨v9, rfl⟩, rfl, rfl⟩
    have z1 : (W.setCell ⟨w.heap.size + 1, 0, none⟩ (.int .i64 8)).cell? ⟨w.heap.size + 1, 0, none⟩ = some (.int .i64 8) := ((hB1.set_ 0 (.int .i64 8)).cell 0).trans rfl
    simp [Leaves, settle, results, Tryz.f113, go_sem, z1, htm]
    exact hf
  clear hb hB0 hB1 hD h hsz
  go_enter_defers Tryz.func113, Tryz.ntmps113
  go_upto_region 2 with (fail)
  rw [← hW]
  clear hW
  refine wp_region_any (by kernel_rfl) ?_
  change wpAny _ _ _ _ _ _ _ (World.drew _)
  refine wpAny_ready (rs := [0, 1, 3, 4]) (by kernel_rfl) (by simp) ?_
  refine AllReady.cons rfl (fun K hK => ?_) ?_
  · (go_simp; refine hK _ _ ?_; clear hK K)
    refine wpAny_ready (rs := [1, 3, 4]) (by kernel_rfl) (by simp) ?_
    refine AllReady.cons rfl (fun K hK => ?_) ?_
    · (go_simp; refine hK _ _ ?_; clear hK K)
      refine wpAny_ready (rs := [2, 3, 4]) (by kernel_rfl) (by simp) ?_
      refine AllReady.cons rfl (fun K hK => ?_) ?_
      · (clear hK; go_simp; go_at_call 180; with_reducible refine (hcall.out _ hD0.out).mono ?_; rintro e0 w' ⟨rfl, rfl⟩; simp only [downE]; show bodyPostD _ _ _ _ _ _; simp only [bodyPostD]; refine hleaf.out _ ?_; first | (simp; done) | exact ⟨rfl, rfl⟩)
      refine AllReady.cons rfl (fun K hK => ?_) ?_
      · (go_simp; refine hK _ _ ?_; clear hK K)
        refine wpAny_ready (rs := [2, 4]) (by kernel_rfl) (by simp) ?_
        refine AllReady.cons rfl (fun K hK => ?_) ?_
        · (clear hK; go_simp; go_at_call 180; with_reducible refine (hcall.out _ hD0.out).mono ?_; rintro e0 w' ⟨rfl, rfl⟩; simp only [downE]; show bodyPostD _ _ _ _ _ _; simp only [bodyPostD]; refine hleaf.out _ ?_; first | (simp; done) | exact ⟨rfl, rfl⟩)
        refine AllReady.cons rfl (fun K hK => ?_) ?_
        · (go_simp; refine hK _ _ ?_; clear hK K)
          refine wpAny_ready (rs := [2]) (by kernel_rfl) (by simp) ?_
          refine AllReady.cons rfl (fun K hK => ?_) ?_
          · (clear hK; go_simp; go_at_call 180; with_reducible refine (hcall.out _ hD0.out).mono ?_; rintro e0 w' ⟨rfl, rfl⟩; simp only [downE]; show bodyPostD _ _ _ _ _ _; simp only [bodyPostD]; refine hleaf.out _ ?_; first | (simp; done) | exact ⟨rfl, rfl⟩)
          exact AllReady.nil
        exact AllReady.nil
      refine AllReady.cons rfl (fun K hK => ?_) ?_
      · (go_simp; refine hK _ _ ?_; clear hK K)
        refine wpAny_ready (rs := [2, 3]) (by kernel_rfl) (by simp) ?_
        refine AllReady.cons rfl (fun K hK => ?_) ?_
        · (clear hK; go_simp; go_at_call 180; with_reducible refine (hcall.out _ hD0.out).mono ?_; rintro e0 w' ⟨rfl, rfl⟩; simp only [downE]; show bodyPostD _ _ _ _ _ _; simp only [bodyPostD]; refine hleaf.out _ ?_; first | (simp; done) | exact ⟨rfl, rfl⟩)
        refine AllReady.cons rfl (fun K hK => ?_) ?_
        · (go_simp; refine hK _ _ ?_; clear hK K)
          refine wpAny_ready (rs := [2]) (by kernel_rfl) (by simp) ?_
          refine AllReady.cons rfl (fun K hK => ?_) ?_
          · (clear hK; go_simp; go_at_call 180; with_reducible refine (hcall.out _ hD0.out).mono ?_; rintro e0 w' ⟨rfl, rfl⟩; simp only [downE]; show bodyPostD _ _ _ _ _ _; simp only [bodyPostD]; refine hleaf.out _ ?_; first | (simp; done) | exact ⟨rfl, rfl⟩)
          exact AllReady.nil
        exact AllReady.nil
      exact AllReady.nil
    refine AllReady.cons rfl (fun K hK => ?_) ?_
    · (go_simp; refine hK _ _ ?_; clear hK K)
      refine wpAny_ready (rs := [1, 4]) (by kernel_rfl) (by simp) ?_
      refine AllReady.cons rfl (fun K hK => ?_) ?_
      · (go_simp; refine hK _ _ ?_; clear hK K)
        refine wpAny_ready (rs := [2, 4]) (by kernel_rfl) (by simp) ?_
        refine AllReady.cons rfl (fun K hK => ?_) ?_
        · (clear hK; go_simp; go_at_call 180; with_reducible refine (hcall.out _ hD0.out).mono ?_; rintro e0 w' ⟨rfl, rfl⟩; simp only [downE]; show bodyPostD _ _ _ _ _ _; simp only [bodyPostD]; refine hleaf.out _ ?_; first | (simp; done) | exact ⟨rfl, rfl⟩)
        refine AllReady.cons rfl (fun K hK => ?_) ?_
        · (go_simp; refine hK _ _ ?_; clear hK K)
          refine wpAny_ready (rs := [2]) (by kernel_rfl) (by simp) ?_
          refine AllReady.cons rfl (fun K hK => ?_) ?_
          · (clear hK; go_simp; go_at_call 180; with_reducible refine (hcall.out _ hD0.out).mono ?_; rintro e0 w' ⟨rfl, rfl⟩; simp only [downE]; show bodyPostD _ _ _ _ _ _; simp only [bodyPostD]; refine hleaf.out _ ?_; first | (simp; done) | exact ⟨rfl, rfl⟩)
          exact AllReady.nil
        exact AllReady.nil
      refine AllReady.cons rfl (fun K hK => ?_) ?_
      · (go_simp; refine hK _ _ ?_; clear hK K)
        refine wpAny_ready (rs := [1]) (by kernel_rfl) (by simp) ?_
        refine AllReady.cons rfl (fun K hK => ?_) ?_
        · (go_simp; refine hK _ _ ?_; clear hK K)
          refine wpAny_ready (rs := [2]) (by kernel_rfl) (by simp) ?_
          refine AllReady.cons rfl (fun K hK => ?_) ?_
          · (clear hK; go_simp; go_at_call 180; with_reducible refine (hcall.out _ hD0.out).mono ?_; rintro e0 w' ⟨rfl, rfl⟩; simp only [downE]; show bodyPostD _ _ _ _ _ _; simp only [bodyPostD]; refine hleaf.out _ ?_; first | (simp; done) | exact ⟨rfl, rfl⟩)
          exact AllReady.nil
        exact AllReady.nil
      exact AllReady.nil
    refine AllReady.cons rfl (fun K hK => ?_) ?_
    · (go_simp; refine hK _ _ ?_; clear hK K)
      refine wpAny_ready (rs := [1, 3]) (by kernel_rfl) (by simp) ?_
      refine AllReady.cons rfl (fun K hK => ?_) ?_
      · (go_simp; refine hK _ _ ?_; clear hK K)
        refine wpAny_ready (rs := [2, 3]) (by kernel_rfl) (by simp) ?_
        refine AllReady.cons rfl (fun K hK => ?_) ?_
        · (clear hK; go_simp; go_at_call 180; with_reducible refine (hcall.out _ hD0.out).mono ?_; rintro e0 w' ⟨rfl, rfl⟩; simp only [downE]; show bodyPostD _ _ _ _ _ _; simp only [bodyPostD]; refine hleaf.out _ ?_; first | (simp; done) | exact ⟨rfl, rfl⟩)
        refine AllReady.cons rfl (fun K hK => ?_) ?_
        · (go_simp; refine hK _ _ ?_; clear hK K)
          refine wpAny_ready (rs := [2]) (by kernel_rfl) (by simp) ?_
          refine AllReady.cons rfl (fun K hK => ?_) ?_
          · (clear hK; go_simp; go_at_call 180; with_reducible refine (hcall.out _ hD0.out).mono ?_; rintro e0 w' ⟨rfl, rfl⟩; simp only [downE]; show bodyPostD _ _ _ _ _ _; simp only [bodyPostD]; refine hleaf.out _ ?_; first | (simp; done) | exact ⟨rfl, rfl⟩)
          exact AllReady.nil
        exact AllReady.nil
      refine AllReady.cons rfl (fun K hK => ?_) ?_
      · (go_simp; refine hK _ _ ?_; clear hK K)
        refine wpAny_ready (rs := [1]) (by kernel_rfl) (by simp) ?_
        refine AllReady.cons rfl (fun K hK => ?_) ?_
        · (go_simp; refine hK _ _ ?_; clear hK K)
          refine wpAny_ready (rs := [2]) (by kernel_rfl) (by simp) ?_
          refine AllReady.cons rfl (fun K hK => ?_) ?_
          · (clear hK; go_simp; go_at_call 180; with_reducible refine (hcall.out _ hD0.out).mono ?_; rintro e0 w' ⟨rfl, rfl⟩; simp only [downE]; show bodyPostD _ _ _ _ _ _; simp only [bodyPostD]; refine hleaf.out _ ?_; first | (simp; done) | exact ⟨rfl, rfl⟩)
          exact AllReady.nil
        exact AllReady.nil
      exact AllReady.nil
    exact AllReady.nil
  refine AllReady.cons rfl (fun K hK => ?_) ?_
  · (go_simp; refine hK _ _ ?_; clear hK K)
    refine wpAny_ready (rs := [0, 3, 4]) (by kernel_rfl) (by simp) ?_
    refine AllReady.cons rfl (fun K hK => ?_) ?_
    · (go_simp; refine hK _ _ ?_; clear hK K)
      refine wpAny_ready (rs := [2, 3, 4]) (by kernel_rfl) (by simp) ?_
      refine AllReady.cons rfl (fun K hK => ?_) ?_
      · (clear hK; go_simp; go_at_call 180; with_reducible refine (hcall.out _ hD0.out).mono ?_; rintro e0 w' ⟨rfl, rfl⟩; simp only [downE]; show bodyPostD _ _ _ _ _ _; simp only [bodyPostD]; refine hleaf.out _ ?_; first | (simp; done) | exact ⟨rfl, rfl⟩)
      refine AllReady.cons rfl (fun K hK => ?_) ?_
      · (go_simp; refine hK _ _ ?_; clear hK K)
        refine wpAny_ready (rs := [2, 4]) (by kernel_rfl) (by simp) ?_
        refine AllReady.cons rfl (fun K hK => ?_) ?_
        · (clear hK; go_simp; go_at_call 180; with_reducible refine (hcall.out _ hD0.out).mono ?_; rintro e0 w' ⟨rfl, rfl⟩; simp only [downE]; show bodyPostD _ _ _ _ _ _; simp only [bodyPostD]; refine hleaf.out _ ?_; first | (simp; done) | exact ⟨rfl, rfl⟩)
        refine AllReady.cons rfl (fun K hK => ?_) ?_
        · (go_simp; refine hK _ _ ?_; clear hK K)
          refine wpAny_ready (rs := [2]) (by kernel_rfl) (by simp) ?_
          refine AllReady.cons rfl (fun K hK => ?_) ?_
          · (clear hK; go_simp; go_at_call 180; with_reducible refine (hcall.out _ hD0.out).mono ?_; rintro e0 w' ⟨rfl, rfl⟩; simp only [downE]; show bodyPostD _ _ _ _ _ _; simp only [bodyPostD]; refine hleaf.out _ ?_; first | (simp; done) | exact ⟨rfl, rfl⟩)
          exact AllReady.nil
        exact AllReady.nil
      refine AllReady.cons rfl (fun K hK => ?_) ?_
      · (go_simp; refine hK _ _ ?_; clear hK K)
        refine wpAny_ready (rs := [2, 3]) (by kernel_rfl) (by simp) ?_
        refine AllReady.cons rfl (fun K hK => ?_) ?_
        · (clear hK; go_simp; go_at_call 180; with_reducible refine (hcall.out _ hD0.out).mono ?_; rintro e0 w' ⟨rfl, rfl⟩; simp only [downE]; show bodyPostD _ _ _ _ _ _; simp only [bodyPostD]; refine hleaf.out _ ?_; first | (simp; done) | exact ⟨rfl, rfl⟩)
        refine AllReady.cons rfl (fun K hK => ?_) ?_
        · (go_simp; refine hK _ _ ?_; clear hK K)
          refine wpAny_ready (rs := [2]) (by kernel_rfl) (by simp) ?_
          refine AllReady.cons rfl (fun K hK => ?_) ?_
          · (clear hK; go_simp; go_at_call 180; with_reducible refine (hcall.out _ hD0.out).mono ?_; rintro e0 w' ⟨rfl, rfl⟩; simp only [downE]; show bodyPostD _ _ _ _ _ _; simp only [bodyPostD]; refine hleaf.out _ ?_; first | (simp; done) | exact ⟨rfl, rfl⟩)
          exact AllReady.nil
        exact AllReady.nil
      exact AllReady.nil
    refine AllReady.cons rfl (fun K hK => ?_) ?_
    · (go_simp; refine hK _ _ ?_; clear hK K)
      refine wpAny_ready (rs := [0, 4]) (by kernel_rfl) (by simp) ?_
      refine AllReady.cons rfl (fun K hK => ?_) ?_
      · (go_simp; refine hK _ _ ?_; clear hK K)
        refine wpAny_ready (rs := [2, 4]) (by kernel_rfl) (by simp) ?_
        refine AllReady.cons rfl (fun K hK => ?_) ?_
        · (clear hK; go_simp; go_at_call 180; with_reducible refine (hcall.out _ hD0.out).mono ?_; rintro e0 w' ⟨rfl, rfl⟩; simp only [downE]; show bodyPostD _ _ _ _ _ _; simp only [bodyPostD]; refine hleaf.out _ ?_; first | (simp; done) | exact ⟨rfl, rfl⟩)
        refine AllReady.cons rfl (fun K hK => ?_) ?_
        · (go_simp; refine hK _ _ ?_; clear hK K)
          refine wpAny_ready (rs := [2]) (by kernel_rfl) (by simp) ?_
          refine AllReady.cons rfl (fun K hK => ?_) ?_
          · (clear hK; go_simp; go_at_call 180; with_reducible refine (hcall.out _ hD0.out).mono ?_; rintro e0 w' ⟨rfl, rfl⟩; simp only [downE]; show bodyPostD _ _ _ _ _ _; simp only [bodyPostD]; refine hleaf.out _ ?_; first | (simp; done) | exact ⟨rfl, rfl⟩)
          exact AllReady.nil
        exact AllReady.nil
      refine AllReady.cons rfl (fun K hK => ?_) ?_
      · (go_simp; refine hK _ _ ?_; clear hK K)
        refine wpAny_ready (rs := [0]) (by kernel_rfl) (by simp) ?_
        refine AllReady.cons rfl (fun K hK => ?_) ?_
        · (go_simp; refine hK _ _ ?_; clear hK K)
          refine wpAny_ready (rs := [2]) (by kernel_rfl) (by simp) ?_
          refine AllReady.cons rfl (fun K hK => ?_) ?_
          · (clear hK; go_simp; go_at_call 180; with_reducible refine (hcall.out _ hD0.out).mono ?_; rintro e0 w' ⟨rfl, rfl⟩; simp only [downE]; show bodyPostD _ _ _ _ _ _; simp only [bodyPostD]; refine hleaf.out _ ?_; first | (simp; done) | exact ⟨rfl, rfl⟩)
          exact AllReady.nil
        exact AllReady.nil
      exact AllReady.nil
    refine AllReady.cons rfl (fun K hK => ?_) ?_
    · (go_simp; refine hK _ _ ?_; clear hK K)
      refine wpAny_ready (rs := [0, 3]) (by kernel_rfl) (by simp) ?_
      refine AllReady.cons rfl (fun K hK => ?_) ?_
      · (go_simp; refine hK _ _ ?_; clear hK K)
        refine wpAny_ready (rs := [2, 3]) (by kernel_rfl) (by simp) ?_
        refine AllReady.cons rfl (fun K hK => ?_) ?_
        · (clear hK; go_simp; go_at_call 180; with_reducible refine (hcall.out _ hD0.out).mono ?_; rintro e0 w' ⟨rfl, rfl⟩; simp only [downE]; show bodyPostD _ _ _ _ _ _; simp only [bodyPostD]; refine hleaf.out _ ?_; first | (simp; done) | exact ⟨rfl, rfl⟩)
        refine AllReady.cons rfl (fun K hK => ?_) ?_
        · (go_simp; refine hK _ _ ?_; clear hK K)
          refine wpAny_ready (rs := [2]) (by kernel_rfl) (by simp) ?_
          refine AllReady.cons rfl (fun K hK => ?_) ?_
          · (clear hK; go_simp; go_at_call 180; with_reducible refine (hcall.out _ hD0.out).mono ?_; rintro e0 w' ⟨rfl, rfl⟩; simp only [downE]; show bodyPostD _ _ _ _ _ _; simp only [bodyPostD]; refine hleaf.out _ ?_; first | (simp; done) | exact ⟨rfl, rfl⟩)
          exact AllReady.nil
        exact AllReady.nil
      refine AllReady.cons rfl (fun K hK => ?_) ?_
      · (go_simp; refine hK _ _ ?_; clear hK K)
        refine wpAny_ready (rs := [0]) (by kernel_rfl) (by simp) ?_
        refine AllReady.cons rfl (fun K hK => ?_) ?_
        · (go_simp; refine hK _ _ ?_; clear hK K)
          refine wpAny_ready (rs := [2]) (by kernel_rfl) (by simp) ?_
          refine AllReady.cons rfl (fun K hK => ?_) ?_
          · (clear hK; go_simp; go_at_call 180; with_reducible refine (hcall.out _ hD0.out).mono ?_; rintro e0 w' ⟨rfl, rfl⟩; simp only [downE]; show bodyPostD _ _ _ _ _ _; simp only [bodyPostD]; refine hleaf.out _ ?_; first | (simp; done) | exact ⟨rfl, rfl⟩)
          exact AllReady.nil
        exact AllReady.nil
      exact AllReady.nil
    exact AllReady.nil
  refine AllReady.cons rfl (fun K hK => ?_) ?_
  · (go_simp; refine hK _ _ ?_; clear hK K)
    refine wpAny_ready (rs := [0, 1, 4]) (by kernel_rfl) (by simp) ?_
    refine AllReady.cons rfl (fun K hK => ?_) ?_
    · (go_simp; refine hK _ _ ?_; clear hK K)
      refine wpAny_ready (rs := [1, 4]) (by kernel_rfl) (by simp) ?_
      refine AllReady.cons rfl (fun K hK => ?_) ?_
      · (go_simp; refine hK _ _ ?_; clear hK K)
        refine wpAny_ready (rs := [2, 4]) (by kernel_rfl) (by simp) ?_
        refine AllReady.cons rfl (fun K hK => ?_) ?_
        · (clear hK; go_simp; go_at_call 180; with_reducible refine (hcall.out _ hD0.out).mono ?_; rintro e0 w' ⟨rfl, rfl⟩; simp only [downE]; show bodyPostD _ _ _ _ _ _; simp only [bodyPostD]; refine hleaf.out _ ?_; first | (simp; done) | exact ⟨rfl, rfl⟩)
        refine AllReady.cons rfl (fun K hK => ?_) ?_
        · (go_simp; refine hK _ _ ?_; clear hK K)
          refine wpAny_ready (rs := [2]) (by kernel_rfl) (by simp) ?_
          refine AllReady.cons rfl (fun K hK => ?_) ?_
          · (clear hK; go_simp; go_at_call 180; with_reducible refine (hcall.out _ hD0.out).mono ?_; rintro e0 w' ⟨rfl, rfl⟩; simp only [downE]; show bodyPostD _ _ _ _ _ _; simp only [bodyPostD]; refine hleaf.out _ ?_; first | (simp; done) | exact ⟨rfl, rfl⟩)
          exact AllReady.nil
        exact AllReady.nil
      refine AllReady.cons rfl (fun K hK => ?_) ?_
      · (go_simp; refine hK _ _ ?_; clear hK K)
        refine wpAny_ready (rs := [1]) (by kernel_rfl) (by simp) ?_
        refine AllReady.cons rfl (fun K hK => ?_) ?_
        · (go_simp; refine hK _ _ ?_; clear hK K)
          refine wpAny_ready (rs := [2]) (by kernel_rfl) (by simp) ?_
          refine AllReady.cons rfl (fun K hK => ?_) ?_
          · (clear hK; go_simp; go_at_call 180; with_reducible refine (hcall.out _ hD0.out).mono ?_; rintro e0 w' ⟨rfl, rfl⟩; simp only [downE]; show bodyPostD _ _ _ _ _ _; simp only [bodyPostD]; refine hleaf.out _ ?_; first | (simp; done) | exact ⟨rfl, rfl⟩)
          exact AllReady.nil
        exact AllReady.nil
      exact AllReady.nil
    refine AllReady.cons rfl (fun K hK => ?_) ?_
    · (go_simp; refine hK _ _ ?_; clear hK K)
      refine wpAny_ready (rs := [0, 4]) (by kernel_rfl) (by simp) ?_
      refine AllReady.cons rfl (fun K hK => ?_) ?_
      · (go_simp; refine hK _ _ ?_; clear hK K)
        refine wpAny_ready (rs := [2, 4]) (by kernel_rfl) (by simp) ?_
        refine AllReady.cons rfl (fun K hK => ?_) ?_
        · (clear hK; go_simp; go_at_call 180; with_reducible refine (hcall.out _ hD0.out).mono ?_; rintro e0 w' ⟨rfl, rfl⟩; simp only [downE]; show bodyPostD _ _ _ _ _ _; simp only [bodyPostD]; refine hleaf.out _ ?_; first | (simp; done) | exact ⟨rfl, rfl⟩)
        refine AllReady.cons rfl (fun K hK => ?_) ?_
        · (go_simp; refine hK _ _ ?_; clear hK K)
          refine wpAny_ready (rs := [2]) (by kernel_rfl) (by simp) ?_
          refine AllReady.cons rfl (fun K hK => ?_) ?_
          · (clear hK; go_simp; go_at_call 180; with_reducible refine (hcall.out _ hD0.out).mono ?_; rintro e0 w' ⟨rfl, rfl⟩; simp only [downE]; show bodyPostD _ _ _ _ _ _; simp only [bodyPostD]; refine hleaf.out _ ?_; first | (simp; done) | exact ⟨rfl, rfl⟩)
          exact AllReady.nil
        exact AllReady.nil
      refine AllReady.cons rfl (fun K hK => ?_) ?_
      · (go_simp; refine hK _ _ ?_; clear hK K)
        refine wpAny_ready (rs := [0]) (by kernel_rfl) (by simp) ?_
        refine AllReady.cons rfl (fun K hK => ?_) ?_
        · (go_simp; refine hK _ _ ?_; clear hK K)
          refine wpAny_ready (rs := [2]) (by kernel_rfl) (by simp) ?_
          refine AllReady.cons rfl (fun K hK => ?_) ?_
          · (clear hK; go_simp; go_at_call 180; with_reducible refine (hcall.out _ hD0.out).mono ?_; rintro e0 w' ⟨rfl, rfl⟩; simp only [downE]; show bodyPostD _ _ _ _ _ _; simp only [bodyPostD]; refine hleaf.out _ ?_; first | (simp; done) | exact ⟨rfl, rfl⟩)
          exact AllReady.nil
        exact AllReady.nil
      exact AllReady.nil
    refine AllReady.cons rfl (fun K hK => ?_) ?_
    · (go_simp; refine hK _ _ ?_; clear hK K)
      refine wpAny_ready (rs := [0, 1]) (by kernel_rfl) (by simp) ?_
      refine AllReady.cons rfl (fun K hK => ?_) ?_
      · (go_simp; refine hK _ _ ?_; clear hK K)
        refine wpAny_ready (rs := [1]) (by kernel_rfl) (by simp) ?_
        refine AllReady.cons rfl (fun K hK => ?_) ?_
        · (go_simp; refine hK _ _ ?_; clear hK K)
          refine wpAny_ready (rs := [2]) (by kernel_rfl) (by simp) ?_
          refine AllReady.cons rfl (fun K hK => ?_) ?_
          · (clear hK; go_simp; go_at_call 180; with_reducible refine (hcall.out _ hD0.out).mono ?_; rintro e0 w' ⟨rfl, rfl⟩; simp only [downE]; show bodyPostD _ _ _ _ _ _; simp only [bodyPostD]; refine hleaf.out _ ?_; first | (simp; done) | exact ⟨rfl, rfl⟩)
          exact AllReady.nil
        exact AllReady.nil
      refine AllReady.cons rfl (fun K hK => ?_) ?_
      · (go_simp; refine hK _ _ ?_; clear hK K)
        refine wpAny_ready (rs := [0]) (by kernel_rfl) (by simp) ?_
        refine AllReady.cons rfl (fun K hK => ?_) ?_
        · (go_simp; refine hK _ _ ?_; clear hK K)
          refine wpAny_ready (rs := [2]) (by kernel_rfl) (by simp) ?_
          refine AllReady.cons rfl (fun K hK => ?_) ?_
          · (clear hK; go_simp; go_at_call 180; with_reducible refine (hcall.out _ hD0.out).mono ?_; rintro e0 w' ⟨rfl, rfl⟩; simp only [downE]; show bodyPostD _ _ _ _ _ _; simp only [bodyPostD]; refine hleaf.out _ ?_; first | (simp; done) | exact ⟨rfl, rfl⟩)
          exact AllReady.nil
        exact AllReady.nil
      exact AllReady.nil
    exact AllReady.nil
  refine AllReady.cons rfl (fun K hK => ?_) ?_
  · (go_simp; refine hK _ _ ?_; clear hK K)
    refine wpAny_ready (rs := [0, 1, 3]) (by kernel_rfl) (by simp) ?_
    refine AllReady.cons rfl (fun K hK => ?_) ?_
    · (go_simp; refine hK _ _ ?_; clear hK K)
      refine wpAny_ready (rs := [1, 3]) (by kernel_rfl) (by simp) ?_
      refine AllReady.cons rfl (fun K hK => ?_) ?_
      · (go_simp; refine hK _ _ ?_; clear hK K)
        refine wpAny_ready (rs := [2, 3]) (by kernel_rfl) (by simp) ?_
        refine AllReady.cons rfl (fun K hK => ?_) ?_
        · (clear hK; go_simp; go_at_call 180; with_reducible refine (hcall.out _ hD0.out).mono ?_; rintro e0 w' ⟨rfl, rfl⟩; simp only [downE]; show bodyPostD _ _ _ _ _ _; simp only [bodyPostD]; refine hleaf.out _ ?_; first | (simp; done) | exact ⟨rfl, rfl⟩)
        refine AllReady.cons rfl (fun K hK => ?_) ?_
        · (go_simp; refine hK _ _ ?_; clear hK K)
          refine wpAny_ready (rs := [2]) (by kernel_rfl) (by simp) ?_
          refine AllReady.cons rfl (fun K hK => ?_) ?_
          · (clear hK; go_simp; go_at_call 180; with_reducible refine (hcall.out _ hD0.out).mono ?_; rintro e0 w' ⟨rfl, rfl⟩; simp only [downE]; show bodyPostD _ _ _ _ _ _; simp only [bodyPostD]; refine hleaf.out _ ?_; first | (simp; done) | exact ⟨rfl, rfl⟩)
          exact AllReady.nil
        exact AllReady.nil
      refine AllReady.cons rfl (fun K hK => ?_) ?_
      · (go_simp; refine hK _ _ ?_; clear hK K)
        refine wpAny_ready (rs := [1]) (by kernel_rfl) (by simp) ?_
        refine AllReady.cons rfl (fun K hK => ?_) ?_
        · (go_simp; refine hK _ _ ?_; clear hK K)
          refine wpAny_ready (rs := [2]) (by kernel_rfl) (by simp) ?_
          refine AllReady.cons rfl (fun K hK => ?_) ?_
          · (clear hK; go_simp; go_at_call 180; with_reducible refine (hcall.out _ hD0.out).mono ?_; rintro e0 w' ⟨rfl, rfl⟩; simp only [downE]; show bodyPostD _ _ _ _ _ _; simp only [bodyPostD]; refine hleaf.out _ ?_; first | (simp; done) | exact ⟨rfl, rfl⟩)
          exact AllReady.nil
        exact AllReady.nil
      exact AllReady.nil
    refine AllReady.cons rfl (fun K hK => ?_) ?_
    · (go_simp; refine hK _ _ ?_; clear hK K)
      refine wpAny_ready (rs := [0, 3]) (by kernel_rfl) (by simp) ?_
      refine AllReady.cons rfl (fun K hK => ?_) ?_
      · (go_simp; refine hK _ _ ?_; clear hK K)
        refine wpAny_ready (rs := [2, 3]) (by kernel_rfl) (by simp) ?_
        refine AllReady.cons rfl (fun K hK => ?_) ?_
        · (clear hK; go_simp; go_at_call 180; with_reducible refine (hcall.out _ hD0.out).mono ?_; rintro e0 w' ⟨rfl, rfl⟩; simp only [downE]; show bodyPostD _ _ _ _ _ _; simp only [bodyPostD]; refine hleaf.out _ ?_; first | (simp; done) | exact ⟨rfl, rfl⟩)
        refine AllReady.cons rfl (fun K hK => ?_) ?_
        · (go_simp; refine hK _ _ ?_; clear hK K)
          refine wpAny_ready (rs := [2]) (by kernel_rfl) (by simp) ?_
          refine AllReady.cons rfl (fun K hK => ?_) ?_
          · (clear hK; go_simp; go_at_call 180; with_reducible refine (hcall.out _ hD0.out).mono ?_; rintro e0 w' ⟨rfl, rfl⟩; simp only [downE]; show bodyPostD _ _ _ _ _ _; simp only [bodyPostD]; refine hleaf.out _ ?_; first | (simp; done) | exact ⟨rfl, rfl⟩)
          exact AllReady.nil
        exact AllReady.nil
      refine AllReady.cons rfl (fun K hK => ?_) ?_
      · (go_simp; refine hK _ _ ?_; clear hK K)
        refine wpAny_ready (rs := [0]) (by kernel_rfl) (by simp) ?_
        refine AllReady.cons rfl (fun K hK => ?_) ?_
        · (go_simp; refine hK _ _ ?_; clear hK K)
          refine wpAny_ready (rs := [2]) (by kernel_rfl) (by simp) ?_
          refine AllReady.cons rfl (fun K hK => ?_) ?_
          · (clear hK; go_simp; go_at_call 180; with_reducible refine (hcall.out _ hD0.out).mono ?_; rintro e0 w' ⟨rfl, rfl⟩; simp only [downE]; show bodyPostD _ _ _ _ _ _; simp only [bodyPostD]; refine hleaf.out _ ?_; first | (simp; done) | exact ⟨rfl, rfl⟩)
          exact AllReady.nil
        exact AllReady.nil
      exact AllReady.nil
    refine AllReady.cons rfl (fun K hK => ?_) ?_
    · (go_simp; refine hK _ _ ?_; clear hK K)
      refine wpAny_ready (rs := [0, 1]) (by kernel_rfl) (by simp) ?_
      refine AllReady.cons rfl (fun K hK => ?_) ?_
      · (go_simp; refine hK _ _ ?_; clear hK K)
        refine wpAny_ready (rs := [1]) (by kernel_rfl) (by simp) ?_
        refine AllReady.cons rfl (fun K hK => ?_) ?_
        · (go_simp; refine hK _ _ ?_; clear hK K)
          refine wpAny_ready (rs := [2]) (by kernel_rfl) (by simp) ?_
          refine AllReady.cons rfl (fun K hK => ?_) ?_
          · (clear hK; go_simp; go_at_call 180; with_reducible refine (hcall.out _ hD0.out).mono ?_; rintro e0 w' ⟨rfl, rfl⟩; simp only [downE]; show bodyPostD _ _ _ _ _ _; simp only [bodyPostD]; refine hleaf.out _ ?_; first | (simp; done) | exact ⟨rfl, rfl⟩)
          exact AllReady.nil
        exact AllReady.nil
      refine AllReady.cons rfl (fun K hK => ?_) ?_
      · (go_simp; refine hK _ _ ?_; clear hK K)
        refine wpAny_ready (rs := [0]) (by kernel_rfl) (by simp) ?_
        refine AllReady.cons rfl (fun K hK => ?_) ?_
        · (go_simp; refine hK _ _ ?_; clear hK K)
          refine wpAny_ready (rs := [2]) (by kernel_rfl) (by simp) ?_
          refine AllReady.cons rfl (fun K hK => ?_) ?_
          · (clear hK; go_simp; go_at_call 180; with_reducible refine (hcall.out _ hD0.out).mono ?_; rintro e0 w' ⟨rfl, rfl⟩; simp only [downE]; show bodyPostD _ _ _ _ _ _; simp only [bodyPostD]; refine hleaf.out _ ?_; first | (simp; done) | exact ⟨rfl, rfl⟩)
          exact AllReady.nil
        exact AllReady.nil
      exact AllReady.nil
    exact AllReady.nil
  exact AllReady.nil
set_option maxRecDepth 100000 in
set_option maxHeartbeats 1600000 in
theorem sGet_down (h : SrvAt w sg i v d g down lost) (hdl : (down || lost) = true) (st ix : Int) :
    Calls Tryz.prog 184 #[.pointer (some ⟨sg, 0, none⟩), .int .i64 i, .agg #[.int .i64 st, .int .i64 ix]] w fun e w' => e = .returned (.tuple #[.string ⟨#[]⟩, .int .i64 8]) ∧ Below w.heap.size w w' := by
  have hmf : ∀ (fn : Fn) (first cap : Array Value) (w : World), (Instr.makeFunc fn first cap).run Tryz.prog w = .ok (.func fn first cap) w := fun _ _ _ _ => rfl
  obtain ⟨W, hW⟩ : ∃ W, W = ((w.alloc (.cells #[.int .i64 st, .int .i64 ix] 122)).alloc (.cells #[.string ⟨#[]⟩] 9)).alloc (.cells #[.int .i64 0] 31) := ⟨_, rfl⟩
  have hs1 : (w.alloc (.cells #[.int .i64 st, .int .i64 ix] 122)).heap.size = w.heap.size + 1 := by simp
  have hs2 : ((w.alloc (.cells #[.int .i64 st, .int .i64 ix] 122)).alloc (.cells #[.string ⟨#[]⟩] 9)).heap.size = w.heap.size + 2 := by simp
  have hb : Below w.heap.size w W := by rw [hW]; exact (((Below.refl _ _).alloc (Nat.le_refl _) _).alloc (by omega) _).alloc (by omega) _
  have hB0 : Blk W w.heap.size 122 #[.int .i64 st, .int .i64 ix] := by rw [hW]; exact ((Blk.new w 122 _).alloc _).alloc _
  have hB1 : Blk W (w.heap.size + 1) 9 #[.string ⟨#[]⟩] := by rw [hW, ← hs1]; exact (Blk.new _ 9 _).alloc _
  have hB2 : Blk W (w.heap.size + 2) 31 #[.int .i64 0] := by rw [hW, ← hs2]; exact Blk.new _ 31 _
  have x0 : W.cell? ⟨w.heap.size, 0, none⟩ = some (.int .i64 st) := (hB0.cell 0).trans rfl
  have x1 : W.cell? ⟨w.heap.size, 1, none⟩ = some (.int .i64 ix) := (hB0.cell 1).trans rfl
  have hD := h.below hb
  have hcall : Hid (∀ W2, Below W.heap.size W W2 → Calls Tryz.prog 180 #[.pointer (some ⟨sg, 0, none⟩), .int .i64 i] W2 fun e w' => e = downE ∧ W2 = w') := fun W2 hb2 => store_down (hD.below hb2) hdl
  have hD0 : Hid (Below W.heap.size W W.drew) := (Below.refl _ _).drew
  have hleaf : Hid (∀ tm : Array Value, tm[6]? = some (.pointer (some ⟨w.heap.size + 1, 0, none⟩)) ∧ tm[7]? = some (.pointer (some ⟨w.heap.size + 1 + 1, 0, none⟩)) → Leaves Tryz.prog Tryz.f184 tm (fun e w' => e = .returned (.tuple #[.string ⟨#[]⟩, .int .i64 8]) ∧ Below w.heap.size w w') [{ target := .fn (.func 243) #[.pointer (some ⟨w.heap.size + 1, 0, none⟩), .pointer (some ⟨w.heap.size + 1 + 1, 0, none⟩)], args := #[] }] (.panicking [{ v := .iface 31 (.int .i64 8), recovered := false }]) W.drew) := by
    show ∀ tm : Array Value, _
    rintro tm ⟨ht1, ht2⟩
    have hf : Below w.heap.size w ((W.drew.setCell ⟨w.heap.size + 1, 0, none⟩ (.string ⟨#[]⟩)).setCell ⟨w.heap.size + 1 + 1, 0, none⟩ (.int .i64 8)) := (hb.drew.setCell (p := ⟨w.heap.size + 1, 0, none⟩) (by simp) _).setCell (p := ⟨w.heap.size + 1 + 1, 0, none⟩) (by show w.heap.size ≤ w.heap.size + 1 + 1; omega) _
    have y0 : W.drew.cell? ⟨w.heap.size + 1, 0, none⟩ = some (.string ⟨#[]⟩) := (hB1.drew.cell 0).trans rfl
    have z0 : W.drew.cell? ⟨w.heap.size + 1 + 1, 0, none⟩ = some (.int .i64 0) := (hB2.drew.cell 0).trans rfl
    have hyz : w.heap.size + 1 ≠ w.heap.size + 2 := by omega
    have hzy : w.heap.size + 2 ≠ w.heap.size + 1 := by omega
    refine leaves_cons (f := 243) (args := #[.pointer (some ⟨w.heap.size + 1, 0, none⟩), .pointer (some ⟨w.heap.size + 1 + 1, 0, none⟩)]) (by simp) (by simp [go_sem]) ?_
    refine (raised243 _ _ _ _ _ y0 (hB1.drew.frozen 0) z0 (hB2.drew.frozen 0) hyz []).mono ?_
    rintro e u' w'' ⟨⟨v9, rfl⟩, rfl, rfl⟩
    have y1 : ((W.setCell ⟨w.heap.size + 1, 0, none⟩ (.string ⟨#[]⟩)).setCell ⟨w.heap.size + 1 + 1, 0, none⟩ (.int .i64 8)).cell? ⟨w.heap.size + 1, 0, none⟩ = some (.string ⟨#[]⟩) := (((hB1.set_ 0 (.string ⟨#[]⟩)).far (p := ⟨w.heap.size + 1 + 1, 0, none⟩) hyz (.int .i64 8)).cell 0).trans rfl
    have z1 : ((W.setCell ⟨w.heap.size + 1, 0, none⟩ (.string ⟨#[]⟩)).setCell ⟨w.heap.size + 1 + 1, 0, none⟩ (.int .i64 8)).cell? ⟨w.heap.size + 1 + 1, 0, none⟩ = some (.int .i64 8) := (((hB2.far (p := ⟨w.heap.size + 1, 0, none⟩) hzy (.string ⟨#[]⟩)).set_ 0 (.int .i64 8)).cell 0).trans rfl
    simp [Leaves, settle, results, Tryz.f184, go_sem, y1, z1, ht1, ht2]
    exact hf
  clear hb hB0 hB1 hB2 hD h hs1 hs2
  go_enter_defers Tryz.func184, Tryz.ntmps184
  go_upto_region 2 with (fail)
  rw [← hW]
  clear hW
  refine wp_region_any (by kernel_rfl) ?_
  change wpAny _ _ _ _ _ _ _ (World.drew _)
  refine wpAny_ready (rs := [0, 1, 3]) (by kernel_rfl) (by simp) ?_
  refine AllReady.cons rfl (fun K hK => ?_) ?_
  · (go_simp; refine hK _ _ ?_; clear hK K)
    refine wpAny_ready (rs := [1, 3]) (by kernel_rfl) (by simp) ?_
    refine AllReady.cons rfl (fun K hK => ?_) ?_
    · (go_simp; refine hK _ _ ?_; clear hK K)
      refine wpAny_ready (rs := [2, 3]) (by kernel_rfl) (by simp) ?_
      refine AllReady.cons rfl (fun K hK => ?_) ?_
      · (clear hK; go_simp; go_at_call 180; with_reducible refine (hcall.out _ hD0.out).mono ?_; rintro e0 w' ⟨rfl, rfl⟩; simp only [downE]; show bodyPostD _ _ _ _ _ _; simp only [bodyPostD]; refine hleaf.out _ ?_; first | (simp; done) | exact ⟨rfl, rfl⟩)
      refine AllReady.cons rfl (fun K hK => ?_) ?_
      · (go_simp; refine hK _ _ ?_; clear hK K)
        refine wpAny_ready (rs := [2]) (by kernel_rfl) (by simp) ?_
        refine AllReady.cons rfl (fun K hK => ?_) ?_
        · (clear hK; go_simp; go_at_call 180; with_reducible refine (hcall.out _ hD0.out).mono ?_; rintro e0 w' ⟨rfl, rfl⟩; simp only [downE]; show bodyPostD _ _ _ _ _ _; simp only [bodyPostD]; refine hleaf.out _ ?_; first | (simp; done) | exact ⟨rfl, rfl⟩)
        exact AllReady.nil
      exact AllReady.nil
    refine AllReady.cons rfl (fun K hK => ?_) ?_
    · (go_simp; refine hK _ _ ?_; clear hK K)
      refine wpAny_ready (rs := [1]) (by kernel_rfl) (by simp) ?_
      refine AllReady.cons rfl (fun K hK => ?_) ?_
      · (go_simp; refine hK _ _ ?_; clear hK K)
        refine wpAny_ready (rs := [2]) (by kernel_rfl) (by simp) ?_
        refine AllReady.cons rfl (fun K hK => ?_) ?_
        · (clear hK; go_simp; go_at_call 180; with_reducible refine (hcall.out _ hD0.out).mono ?_; rintro e0 w' ⟨rfl, rfl⟩; simp only [downE]; show bodyPostD _ _ _ _ _ _; simp only [bodyPostD]; refine hleaf.out _ ?_; first | (simp; done) | exact ⟨rfl, rfl⟩)
        exact AllReady.nil
      exact AllReady.nil
    exact AllReady.nil
  refine AllReady.cons rfl (fun K hK => ?_) ?_
  · (go_simp; refine hK _ _ ?_; clear hK K)
    refine wpAny_ready (rs := [0, 3]) (by kernel_rfl) (by simp) ?_
    refine AllReady.cons rfl (fun K hK => ?_) ?_
    · (go_simp; refine hK _ _ ?_; clear hK K)
      refine wpAny_ready (rs := [2, 3]) (by kernel_rfl) (by simp) ?_
      refine AllReady.cons rfl (fun K hK => ?_) ?_
      · (clear hK; go_simp; go_at_call 180; with_reducible refine (hcall.out _ hD0.out).mono ?_; rintro e0 w' ⟨rfl, rfl⟩; simp only [downE]; show bodyPostD _ _ _ _ _ _; simp only [bodyPostD]; refine hleaf.out _ ?_; first | (simp; done) | exact ⟨rfl, rfl⟩)
      refine AllReady.cons rfl (fun K hK => ?_) ?_
      · (go_simp; refine hK _ _ ?_; clear hK K)
        refine wpAny_ready (rs := [2]) (by kernel_rfl) (by simp) ?_
        refine AllReady.cons rfl (fun K hK => ?_) ?_
        · (clear hK; go_simp; go_at_call 180; with_reducible refine (hcall.out _ hD0.out).mono ?_; rintro e0 w' ⟨rfl, rfl⟩; simp only [downE]; show bodyPostD _ _ _ _ _ _; simp only [bodyPostD]; refine hleaf.out _ ?_; first | (simp; done) | exact ⟨rfl, rfl⟩)
        exact AllReady.nil
      exact AllReady.nil
    refine AllReady.cons rfl (fun K hK => ?_) ?_
    · (go_simp; refine hK _ _ ?_; clear hK K)
      refine wpAny_ready (rs := [0]) (by kernel_rfl) (by simp) ?_
      refine AllReady.cons rfl (fun K hK => ?_) ?_
      · (go_simp; refine hK _ _ ?_; clear hK K)
        refine wpAny_ready (rs := [2]) (by kernel_rfl) (by simp) ?_
        refine AllReady.cons rfl (fun K hK => ?_) ?_
        · (clear hK; go_simp; go_at_call 180; with_reducible refine (hcall.out _ hD0.out).mono ?_; rintro e0 w' ⟨rfl, rfl⟩; simp only [downE]; show bodyPostD _ _ _ _ _ _; simp only [bodyPostD]; refine hleaf.out _ ?_; first | (simp; done) | exact ⟨rfl, rfl⟩)
        exact AllReady.nil
      exact AllReady.nil
    exact AllReady.nil
  refine AllReady.cons rfl (fun K hK => ?_) ?_
  · (go_simp; refine hK _ _ ?_; clear hK K)
    refine wpAny_ready (rs := [0, 1]) (by kernel_rfl) (by simp) ?_
    refine AllReady.cons rfl (fun K hK => ?_) ?_
    · (go_simp; refine hK _ _ ?_; clear hK K)
      refine wpAny_ready (rs := [1]) (by kernel_rfl) (by simp) ?_
      refine AllReady.cons rfl (fun K hK => ?_) ?_
      · (go_simp; refine hK _ _ ?_; clear hK K)
        refine wpAny_ready (rs := [2]) (by kernel_rfl) (by simp) ?_
        refine AllReady.cons rfl (fun K hK => ?_) ?_
        · (clear hK; go_simp; go_at_call 180; with_reducible refine (hcall.out _ hD0.out).mono ?_; rintro e0 w' ⟨rfl, rfl⟩; simp only [downE]; show bodyPostD _ _ _ _ _ _; simp only [bodyPostD]; refine hleaf.out _ ?_; first | (simp; done) | exact ⟨rfl, rfl⟩)
        exact AllReady.nil
      exact AllReady.nil
    refine AllReady.cons rfl (fun K hK => ?_) ?_
    · (go_simp; refine hK _ _ ?_; clear hK K)
      refine wpAny_ready (rs := [0]) (by kernel_rfl) (by simp) ?_
      refine AllReady.cons rfl (fun K hK => ?_) ?_
      · (go_simp; refine hK _ _ ?_; clear hK K)
        refine wpAny_ready (rs := [2]) (by kernel_rfl) (by simp) ?_
        refine AllReady.cons rfl (fun K hK => ?_) ?_
        · (clear hK; go_simp; go_at_call 180; with_reducible refine (hcall.out _ hD0.out).mono ?_; rintro e0 w' ⟨rfl, rfl⟩; simp only [downE]; show bodyPostD _ _ _ _ _ _; simp only [bodyPostD]; refine hleaf.out _ ?_; first | (simp; done) | exact ⟨rfl, rfl⟩)
        exact AllReady.nil
      exact AllReady.nil
    exact AllReady.nil
  exact AllReady.nil
end
end Go.Proofs.YtopbojifllnckaaGreatDoor
