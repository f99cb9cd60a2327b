/- The specials of this program, all of them. -/
import Derived.Test.YtopbojifllnckaaGreatDoorG17
namespace Go.Proofs.YtopbojifllnckaaGreatDoor
noncomputable def specTop : Specials := fun f =>
  bif Nat.beq f 324 then some spMore else bif Nat.beq f 238 then some spRepeat else bif Nat.beq f 357 then some spByte else bif Nat.beq f 362 then some spCount else bif Nat.beq f 363 then some spIndex else
  bif Nat.beq f 113 then some (spDef Tryz.prog 100000 staOf 113 178 1) else bif Nat.beq f 184 then some (spDef Tryz.prog 100000 staOf 184 243 2) else none
theorem mixTop : Tryz.prog.follows .mixedOrders = true := by kernel_rfl
theorem namesTop : NamesOK Tryz.prog := by
  have h : Tryz.prog.funcs.toList.all (fun fn => !(fn.name == "runtime.NumGoroutine")) = true := by kernel_rfl
  rw [List.all_eq_true] at h
  intro f fn hf
  have := h fn (by rw [← Array.getElem?_toList] at hf; exact List.mem_of_getElem? hf)
  simpa using this
theorem specTop_sound : SpecsSound Tryz.prog specTop := by
  refine specs_of fun call hcall f g hg => ?_
  unfold specTop at hg
  cases h1 : Nat.beq f 324 with
  | true =>
    rw [h1] at hg
    simp only [cond_true, Option.some.injEq] at hg
    subst hg
    rw [beq_eq h1]
    exact spMore_sound call
  | false =>
  rw [h1] at hg
  cases h2 : Nat.beq f 238 with
  | true =>
    rw [h2] at hg
    simp only [cond_true, cond_false, Option.some.injEq] at hg
    subst hg
    rw [beq_eq h2]
    exact spRepeat_sound call
  | false =>
  rw [h2] at hg
  cases h3 : Nat.beq f 357 with
  | true =>
    rw [h3] at hg
    simp only [cond_true, cond_false, Option.some.injEq] at hg
    subst hg
    rw [beq_eq h3]
    exact spByte_sound call
  | false =>
  rw [h3] at hg
  cases h4 : Nat.beq f 362 with
  | true =>
    rw [h4] at hg
    simp only [cond_true, cond_false, Option.some.injEq] at hg
    subst hg
    rw [beq_eq h4]
    exact spCount_sound call
  | false =>
  rw [h4] at hg
  cases h5 : Nat.beq f 363 with
  | true =>
    rw [h5] at hg
    simp only [cond_true, cond_false, Option.some.injEq] at hg
    subst hg
    rw [beq_eq h5]
    exact spIndex_sound call
  | false =>
  rw [h5] at hg
  cases h6 : Nat.beq f 113 with
  | true =>
    rw [h6] at hg
    simp only [cond_true, cond_false, Option.some.injEq] at hg
    subst hg
    rw [beq_eq h6]
    refine spDef_sound (fun _ => rfl) mixTop namesTop ⟨_, Tryz.func178, rfl⟩ (fun cargs w hn => ?_) hcall
    match cargs, hn with
    | [c], _ => exact catch178 c w
  | false =>
  rw [h6] at hg
  cases h7 : Nat.beq f 184 with
  | true =>
    rw [h7] at hg
    simp only [cond_true, cond_false, Option.some.injEq] at hg
    subst hg
    rw [beq_eq h7]
    refine spDef_sound (fun _ => rfl) mixTop namesTop ⟨_, Tryz.func243, rfl⟩ (fun cargs w hn => ?_) hcall
    match cargs, hn with
    | [c, d], _ => exact catch243 c d w
  | false =>
    rw [h7] at hg
    cases hg
/-- A call of this program whose run comes out. -/
theorem top_call (n : Nat) : CallSound Tryz.prog (fF Tryz.prog 100000 staOf specTop n) := fF_sound (fun _ => rfl) mixTop namesTop specTop_sound n
noncomputable def isTrue (r : Option (AV × St)) : Bool := match r with
  | some (.bool b, _) => b
  | _ => false
/-- From the run of a call without arguments: it gives back true, and nothing that stood is touched. -/
theorem call_true {f n : Nat} (h : isTrue (fF Tryz.prog 100000 staOf specTop n f [] ⟨.e, 0⟩) = true) (w : World) : Calls Tryz.prog f #[] w fun e w' => e = .returned (.bool true) ∧ Go.RowKit.Below w.heap.size w w' := by
  cases hr : fF Tryz.prog 100000 staOf specTop n f [] ⟨.e, 0⟩ with
  | none => rw [hr] at h; cases h
  | some r =>
    obtain ⟨v, σ'⟩ := r
    rw [hr] at h
    have hv : v = .bool true := by
      cases v <;> first | (cases h; done) | skip
      next b =>
      have : b = true := h
      rw [this]
    subst hv
    have hR : Rel Tryz.prog (fun _ => none) ⟨.e, 0⟩ w := ⟨fun b o hb => (by simp [Tr.get_e] at hb), fun b b' o o' r r' hb => (by simp [Tr.get_e] at hb), fun b r hb => (by cases hb), fun b o hb => (by simp [Tr.get_e] at hb)⟩
    have := (top_call n f [] ⟨.e, 0⟩ _ σ' (fun _ => none) w [] hr hR rfl).2
    refine this.mono ?_
    rintro e w' ⟨E', c, rfl, hc, hs⟩
    simp only [conc, Option.some.injEq] at hc
    subst hc
    refine ⟨rfl, hs.os, hs.tape, hs.output, hs.size, fun k hk => hs.frame k hk fun hrg => ?_⟩
    obtain ⟨b, o, r, hb, -⟩ := hrg
    simp [Tr.get_e] at hb
end Go.Proofs.YtopbojifllnckaaGreatDoor
