/- manager.New on the law's servers and spares, by the evaluator. -/
import Derived.KernelRfl
import Derived.Test.YtopbojifllnckaaGreatDoorG18
import Derived.Test.YtopbojifllnckaaGreatDoorG32
namespace Go.Proofs.YtopbojifllnckaaGreatDoor
open Go.RowKit
/-- Is block b the cells vs of type e. -/
noncomputable def obC (σ : St) (b e : Nat) (vs : List AV) : Bool :=
  match σ.heap.get b with
  | some (.cells n t e' d l) => Nat.beq n vs.length && (Nat.beq e' e && (bEq l false && (List.range vs.length).all fun i => match rdO (.cells n t e' d l) i, vs[i]? with
    | some x, some y => vEq x y
    | _, _ => false))
  | _ => false
/-- Is block b a map without entries. -/
noncomputable def obM (σ : St) (b : Nat) : Bool :=
  match σ.heap.get b with
  | some (.map [] 0) => true
  | _ => false
section
variable {P : Program} {E : Env} {σ : St} {w : World} {b e x : Nat} {r : Nat × Nat} {vs : List AV}
theorem obC_blk (hR : Rel P E σ w) (hE : E b = some r) (h : obC σ b e vs = true) : ∃ cs : Array Value, Blk w r.1 e cs ∧ concs E vs = some cs.toList ∧ Rg E σ r.1 := by
  unfold obC at h
  split at h
  · next n t e' d l hb =>
    simp only [Bool.and_eq_true] at h
    obtain ⟨h1, h2, h3, h4⟩ := h
    have h1 := beq_eq h1
    have h2 := beq_eq h2
    have h3 := bEq_eq h3
    subst h1 h2 h3
    obtain ⟨ob, hw, cs, rfl, hs, hl, hc⟩ := hR.obj b _ hb r hE
    have hx := hl rfl
    rw [hx, Nat.zero_mul, Nat.add_zero] at hs
    refine ⟨cs, hw, ?_, b, _, r, hb, hE, rfl⟩
    have key : ∀ (us : List AV) (ds : List Value), us.length = ds.length → (∀ (i : Nat) (u : AV), us[i]? = some u → ∃ c, ds[i]? = some c ∧ conc E u = some c) → concs E us = some ds := by
      intro us
      induction us with
      | nil => intro ds hl _; cases ds with
        | nil => rfl
        | cons _ _ => cases hl
      | cons u us ih => intro ds hl hh; cases ds with
        | nil => cases hl
        | cons c ds =>
          obtain ⟨c', h1, h2⟩ := hh 0 u rfl
          simp only [List.getElem?_cons_zero, Option.some.injEq] at h1
          subst h1
          unfold concs
          rw [h2, ih ds (by simpa using hl) (fun i u hu => by have := hh (i + 1) u (by simpa using hu); simpa using this)]
          rfl
    refine key _ _ (by simpa using hs.symm) fun i u hu => ?_
    have hi : i < vs.length := (List.getElem?_eq_some_iff.1 hu).1
    rw [List.all_eq_true] at h4
    have := h4 i (by simpa using hi)
    rw [hu] at this
    split at this
    · next x y hx hy =>
      cases hy
      have he := vEq_eq _ _ this
      subst he
      obtain ⟨c, q1, q2⟩ := hc i _ hx
      exact ⟨c, (by rw [Array.getElem?_toList]; exact q1), q2⟩
    · cases this
  · cases h
theorem obM_map (hR : Rel P E σ w) (hE : E b = some r) (h : obM σ b = true) : w.heap[r.1]? = some (.map #[] 0) ∧ Rg E σ r.1 := by
  unfold obM at h
  split at h
  · next hb =>
    obtain ⟨ob, hw, cs, rfl, hx, hl, _⟩ := hR.obj b _ hb r hE
    have hc : cs = [] := by cases cs with
      | nil => rfl
      | cons _ _ => cases hl
    subst hc
    exact ⟨hw, b, _, r, hb, hE, rfl⟩
  · cases h
end
/-- The memory that New is called in, for the evaluator. -/
noncomputable def newSt : St := ⟨Tr.put (some (.cells 2 (Tr.put (some (.int .i64 4)) (Tr.put (some (.int .i64 3)) .e 0) 1) 3 none false)) (Tr.put (some (.cells 3 (Tr.put (some (.int .i64 2)) (Tr.put (some (.int .i64 1)) (Tr.put (some (.int .i64 0)) .e 0) 1) 2) 3 none false)) .e 0) 1, 2⟩
noncomputable def newRun : Option (AV × St) := fF Tryz.prog 100000 staOf specTop 200 6 [.slc (some (0, 0)) 3 3 true, .slc (some (1, 0)) 2 2 true] newSt
noncomputable def ptO : AV → Nat
  | .ptr (some (b, _)) => b
  | .map (some b) => b
  | .slc (some (b, _)) _ _ _ => b
  | _ => 0
noncomputable def cellO (σ : St) (b i : Nat) : Nat := match σ.heap.get b with
  | some o => (match rdO o i with | some v => ptO v | none => 0)
  | none => 0
noncomputable def newChk : Option (AV × St) → Bool
  | some (v, σ) =>
    let gm := ptO v
    let p1 := cellO σ gm 0
    let p2 := cellO σ gm 1
    let p3 := cellO σ gm 2
    let p4 := cellO σ gm 3
    let p5 := cellO σ gm 4
    let p6 := cellO σ gm 5
    let b1 := cellO σ p1 0
    let b2 := cellO σ p1 1
    let m5 := cellO σ p5 0
    let m6 := cellO σ p6 1
    vEq v (.ptr (some (gm, 0))) && (obC σ gm 82 [.ptr (some (p1, 0)), .ptr (some (p2, 0)), .ptr (some (p3, 0)), .ptr (some (p4, 0)), .ptr (some (p5, 0)), .ptr (some (p6, 0)), .int .i64 0] &&
    (obC σ p1 153 [.slc (some (b1, 0)) 3 3 true, .slc (some (b2, 0)) 2 2 true, .int .i64 1, .int .i64 (-1), .bool false, .int .i64 (-1)] &&
    (obC σ b1 3 [.int .i64 0, .int .i64 1, .int .i64 2] && (obC σ b2 3 [.int .i64 3, .int .i64 4] &&
    (obC σ p2 156 [.slc none 0 0 true, .int .i64 0] && (obC σ p3 161 (List.replicate 1024 (.int .i64 0)) && (obC σ p4 164 [.slc none 0 0 true] &&
    (obC σ p5 167 [.map (some m5), .int .i64 0] && (obC σ p6 170 [.int .i64 4, .map (some m6)] && (obM σ m5 && (obM σ m6 && !(Nat.beq m5 m6))))))))))))
  | none => false
set_option maxRecDepth 1000000 in
theorem new_run : newChk newRun = true := by kernel_rfl
end Go.Proofs.YtopbojifllnckaaGreatDoor
