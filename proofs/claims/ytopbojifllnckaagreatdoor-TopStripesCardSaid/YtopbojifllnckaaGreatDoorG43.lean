/- What the evaluator's memory says of blocks: read off. -/
import Derived.Test.YtopbojifllnckaaGreatDoorG16
import Derived.Test.YtopbojifllnckaaGreatDoorG17
namespace Go.Proofs.YtopbojifllnckaaGreatDoor
open Go.RowKit
/-- Is block b the cells vs of type e. -/
noncomputable def obC (σ : St) (b e : Nat) (vs : List AV) : Bool :=
  match σ.heap.get b with
  | some (.cells n t e' d l) => Nat.beq n vs.length && (Nat.beq e' e && (bEq l false && (List.range vs.length).all fun i => match rdO (.cells n t e' d l) i, vs[i]? with
    | some x, some y => vEq x y
    | _, _ => false))
  | _ => false
/-- Does block b of type e begin with the cells vs. -/
noncomputable def obP (σ : St) (b e : Nat) (vs : List AV) : Bool :=
  match σ.heap.get b with
  | some (.cells n t e' d l) => Nat.beq e' e && (List.range vs.length).all fun i => match rdO (.cells n t e' d l) i, vs[i]? with
    | some x, some y => vEq x y
    | _, _ => false
  | _ => false
/-- Is block b a map without entries. -/
noncomputable def obM (σ : St) (b : Nat) : Bool :=
  match σ.heap.get b with
  | some (.map [] 0) => true
  | _ => false
section
variable {P : Program} {E : Env} {σ : St} {w : World} {b e x : Nat} {r : Nat × Nat} {vs : List AV}
theorem concs_of : ∀ (us : List AV) (ds : Nat → Option Value), (∀ (i : Nat) (u : AV), us[i]? = some u → ∃ c, ds i = some c ∧ conc E u = some c) → ∃ l, concs E us = some l ∧ l.length = us.length ∧ ∀ i v, l[i]? = some v → ds i = some v
  | [], ds, _ => ⟨[], by unfold concs; rfl, rfl, fun i v h => by cases h⟩
  | u :: us, ds, h => by
    obtain ⟨c, h1, h2⟩ := h 0 u rfl
    obtain ⟨l, h3, h4, h5⟩ := concs_of us (fun i => ds (i + 1)) fun i u hu => h (i + 1) u (by simpa using hu)
    refine ⟨c :: l, by unfold concs; rw [h2, h3]; rfl, by simp [h4], fun i v hv => ?_⟩
    cases i with
    | zero => simp only [List.getElem?_cons_zero, Option.some.injEq] at hv; rw [← hv]; exact h1
    | succ i => exact h5 i v (by simpa using hv)
theorem obP_blk (hR : Rel P E σ w) (hE : E b = some r) (h : obP σ b e vs = true) : ∃ (cs : Array Value) (ds : List Value), Blk w r.1 e cs ∧ concs E vs = some ds ∧ ds.length = vs.length ∧ ∀ (i : Nat) (v : Value), ds[i]? = some v → cs[i]? = some v := by
  unfold obP at h
  split at h
  · next n t e' d l hb =>
    simp only [Bool.and_eq_true] at h
    obtain ⟨h2, h4⟩ := h
    have h2 := beq_eq h2
    subst h2
    obtain ⟨ob, hw, cs, rfl, hs, hl, hc⟩ := hR.obj b _ hb r hE
    obtain ⟨ds, h5, h6, h7⟩ := concs_of (E := E) vs (fun i => cs[i]?) fun i u hu => by
      have hi : i < vs.length := (List.getElem?_eq_some_iff.1 hu).1
      rw [List.all_eq_true] at h4
      have := h4 i (by simpa using hi)
      rw [hu] at this
      split at this
      · next x y hx hy =>
        cases hy
        have he := vEq_eq _ _ this
        subst he
        obtain ⟨c, q1, q2⟩ := hc i _ hx
        exact ⟨c, q1, q2⟩
      · cases this
    exact ⟨cs, ds, hw, h5, h6, h7⟩
  · cases h
theorem obC_blk (hR : Rel P E σ w) (hE : E b = some r) (h : obC σ b e vs = true) : ∃ cs : Array Value, Blk w r.1 e cs ∧ concs E vs = some cs.toList := by
  have hp : obP σ b e vs = true := by
    unfold obC at h
    unfold obP
    split at h
    · next n t e' d l hb =>
      simp only [Bool.and_eq_true] at h ⊢
      exact ⟨h.2.1, h.2.2.2⟩
    · cases h
  obtain ⟨cs, ds, h1, h2, h3, h4⟩ := obP_blk hR hE hp
  unfold obC at h
  split at h
  · next n t e' d l hb =>
    simp only [Bool.and_eq_true] at h
    obtain ⟨q1, q2, q3, _⟩ := h
    have q1 := beq_eq q1
    have q3 := bEq_eq q3
    subst q1 q3
    obtain ⟨ob, hw, cs', rfl, hs, hl, hc⟩ := hR.obj b _ hb r hE
    have hx := hl rfl
    rw [hx, Nat.zero_mul, Nat.add_zero] at hs
    have hcc : cs = cs' := by
      have := (show w.heap[r.1]? = _ from h1).symm.trans hw
      cases this
      rfl
    subst hcc
    refine ⟨cs, h1, ?_⟩
    rw [h2]
    congr 1
    refine List.ext_getElem? fun i => ?_
    by_cases hi : i < ds.length
    · rw [List.getElem?_eq_getElem hi, Array.getElem?_toList]
      exact (h4 i _ (List.getElem?_eq_getElem hi)).symm
    · rw [List.getElem?_eq_none (by omega), List.getElem?_eq_none (by rw [Array.length_toList]; omega)]
  · cases h
theorem obM_map (hR : Rel P E σ w) (hE : E b = some r) (h : obM σ b = true) : w.heap[r.1]? = some (.map #[] 0) := by
  unfold obM at h
  split at h
  · next hb =>
    obtain ⟨ob, hw, cs, rfl, hx, hl, _⟩ := hR.obj b _ hb r hE
    have hc : cs = [] := by cases cs with
      | nil => rfl
      | cons _ _ => cases hl
    subst hc
    exact hw
  · cases h
theorem concs_cons' {v : AV} {vs : List AV} {l : List Value} (h : concs E (v :: vs) = some l) : ∃ c cs, conc E v = some c ∧ concs E vs = some cs ∧ l = c :: cs := by
  unfold concs at h
  cases hc : conc E v with
  | none => rw [hc] at h; cases h
  | some c =>
    cases hs : concs E vs with
    | none => rw [hc, hs] at h; cases h
    | some cs =>
      rw [hc, hs] at h
      cases h
      exact ⟨c, cs, rfl, rfl, rfl⟩
theorem concs_nil' {l : List Value} (h : concs E [] = some l) : l = [] := by
  unfold concs at h
  cases h
  rfl
theorem conc_ptr' {b o : Nat} {c : Value} (h : conc E (.ptr (some (b, o))) = some c) : ∃ r, E b = some r ∧ c = .pointer (some ⟨r.1, o, none⟩) := by
  unfold conc at h
  cases hb : E b with
  | none => rw [hb] at h; cases h
  | some r => rw [hb] at h; cases h; exact ⟨r, rfl, rfl⟩
theorem conc_map' {b : Nat} {c : Value} (h : conc E (.map (some b)) = some c) : ∃ r, E b = some r ∧ c = .map (some r.1) := by
  unfold conc at h
  cases hb : E b with
  | none => rw [hb] at h; cases h
  | some r => rw [hb] at h; cases h; exact ⟨r, rfl, rfl⟩
theorem conc_slc' {b o n k : Nat} {ex : Bool} {c : Value} (h : conc E (.slc (some (b, o)) n k ex) = some c) : ∃ r m, E b = some r ∧ k ≤ m ∧ (ex = true → m = k) ∧ c = .slice (some ⟨r.1, o, none⟩) n m := by
  unfold conc at h
  cases hb : E b with
  | none => rw [hb] at h; cases h
  | some r =>
    rw [hb] at h
    cases h
    refine ⟨r, _, rfl, ?_, ?_, rfl⟩
    · cases ex
      · exact Nat.le_add_right _ _
      · exact Nat.le_refl _
    · intro e
      subst e
      rfl
theorem conc_int' {k : IntKind} {n : Int} {c : Value} (h : conc E (.int k n) = some c) : c = .int k n := by
  unfold conc at h
  cases h
  rfl
theorem conc_str' {s : List UInt8} {c : Value} (h : conc E (.str s) = some c) : c = .string ⟨s.toArray⟩ := by
  unfold conc at h
  cases h
  rfl
theorem conc_bool' {t : Bool} {c : Value} (h : conc E (.bool t) = some c) : c = .bool t := by
  unfold conc at h
  cases h
  rfl
theorem conc_nil' {n k : Nat} {c : Value} (h : conc E (.slc none n k true) = some c) : c = .slice none n k := by
  unfold conc at h
  cases h
  rfl
theorem concs_same {v : AV} {c : Value} (hc : ∀ d, conc E v = some d → d = c) : ∀ (n : Nat) {l : List Value}, concs E (List.replicate n v) = some l → l = List.replicate n c
  | 0, l, h => concs_nil' h
  | n + 1, l, h => by
    obtain ⟨d, ds, h1, h2, rfl⟩ := concs_cons' h
    rw [hc d h1, concs_same hc n h2]
    rfl
theorem concs_app : ∀ (us vs : List AV) {l : List Value}, concs E (us ++ vs) = some l → ∃ l1 l2, concs E us = some l1 ∧ concs E vs = some l2 ∧ l = l1 ++ l2
  | [], vs, l, h => ⟨[], l, by unfold concs; rfl, h, rfl⟩
  | u :: us, vs, l, h => by
    obtain ⟨d, ds, h1, h2, rfl⟩ := concs_cons' h
    obtain ⟨l1, l2, h3, h4, rfl⟩ := concs_app us vs h2
    exact ⟨d :: l1, l2, by unfold concs; rw [h1, h3]; rfl, h4, rfl⟩
/-- Which part a true block belongs to. -/
def tagOf (E : Env) (tags : List (Nat × Nat)) (k : Nat) : Nat := ((tags.find? fun p => decide ((E p.1).map (·.1) = some k)).map (·.2)).getD 0
theorem tag_of (hR : Rel P E σ w) {tags : List (Nat × Nat)} (hnd : (tags.map (·.1)).Nodup) (hl : ∀ p ∈ tags, ∃ o, σ.heap.get p.1 = some o) {t : Nat} (hm : (b, t) ∈ tags) (hb : E b = some r) : tagOf E tags r.1 = t := by
  unfold tagOf
  cases hf : tags.find? fun p => decide ((E p.1).map (·.1) = some r.1) with
  | none =>
    rw [List.find?_eq_none] at hf
    have := hf _ hm
    simp [hb] at this
  | some p =>
    have hp := List.find?_some hf
    have hpm := List.mem_of_find?_eq_some hf
    simp only [decide_eq_true_eq] at hp
    cases hq : E p.1 with
    | none => rw [hq] at hp; cases hp
    | some q =>
      rw [hq] at hp
      simp only [Option.map_some, Option.some.injEq] at hp
      obtain ⟨o1, h1⟩ := hl _ hpm
      obtain ⟨o2, h2⟩ := hl _ hm
      have he := hR.inj _ _ _ _ _ _ h1 h2 hq hb hp
      have key : ∀ (l : List (Nat × Nat)), (l.map (·.1)).Nodup → p ∈ l → (b, t) ∈ l → p.2 = t := by
        intro l
        induction l with
        | nil => intro _ h; cases h
        | cons x l ih =>
          intro hn h1 h2
          simp only [List.map_cons, List.nodup_cons, List.mem_map, not_exists, not_and] at hn
          rcases List.mem_cons.1 h1 with e1 | h1
          · rcases List.mem_cons.1 h2 with e2 | h2
            · rw [e1, ← e2]
            · exact absurd (by rw [← e1, he]) (hn.1 _ h2)
          · rcases List.mem_cons.1 h2 with e2 | h2
            · refine absurd ?_ (hn.1 _ h1)
              rw [← e2, he]
            · exact ih hn.2 h1 h2
      simp only [Option.map_some, Option.getD_some]
      exact key tags hnd hpm hm
theorem tag_back {tags : List (Nat × Nat)} {k : Nat} (h : tagOf E tags k ≠ 0) : ∃ p ∈ tags, ∃ r, E p.1 = some r ∧ r.1 = k := by
  unfold tagOf at h
  cases hf : tags.find? fun p => decide ((E p.1).map (·.1) = some k) with
  | none => rw [hf] at h; exact absurd rfl h
  | some p =>
    have hp := List.find?_some hf
    have hpm := List.mem_of_find?_eq_some hf
    simp only [decide_eq_true_eq] at hp
    cases hq : E p.1 with
    | none => rw [hq] at hp; cases hp
    | some q =>
      rw [hq] at hp
      simp only [Option.map_some, Option.some.injEq] at hp
      exact ⟨p, hpm, q, hq, hp⟩
end
/-- A list of numbers no two of which are alike. -/
def nodB : List Nat → Bool
  | [] => true
  | x :: l => (l.all fun y => !(Nat.beq x y)) && nodB l
theorem nodB_ok : ∀ l, nodB l = true → l.Nodup
  | [], _ => List.nodup_nil
  | x :: l, h => by
    unfold nodB at h
    rw [Bool.and_eq_true, List.all_eq_true] at h
    refine List.nodup_cons.2 ⟨fun hx => ?_, nodB_ok l h.2⟩
    have := h.1 x hx
    rw [show Nat.beq x x = true from Nat.beq_refl x] at this
    cases this
noncomputable def ptO : AV → Nat
  | .ptr (some (b, _)) => b
  | .map (some b) => b
  | .slc (some (b, _)) _ _ _ => b
  | _ => 0
noncomputable def capO : AV → Nat
  | .slc _ _ c _ => c
  | _ => 0
noncomputable def exO : AV → Bool
  | .slc _ _ _ e => e
  | _ => false
noncomputable def cellV (σ : St) (b i : Nat) : AV := match σ.heap.get b with
  | some o => (match rdO o i with | some v => v | none => .nilFunc)
  | none => .nilFunc
noncomputable def cellO (σ : St) (b i : Nat) : Nat := ptO (cellV σ b i)
end Go.Proofs.YtopbojifllnckaaGreatDoor
