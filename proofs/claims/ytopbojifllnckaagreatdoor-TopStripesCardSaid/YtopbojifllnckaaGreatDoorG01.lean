/- An evaluator for closed calls: tries, abstract values, what they stand for. The evaluator's memory, and when it stands for a world. -/
import Derived.WalkKit
import Derived.Laws.Rows
import Derived.Deep.MidRow
import Derived.Deep.Draws
import Derived.Below
namespace Go.Proofs.YtopbojifllnckaaGreatDoor

/-! ### tries by number -/
inductive Tr (α : Type) where
  | e
  | n (l : Tr α) (v : Option α) (r : Tr α)
namespace Tr
variable {α : Type}
noncomputable def get (t : Tr α) : Nat → Option α :=
  Tr.rec (motive := fun _ => Nat → Option α) (fun _ => none) (fun _ v _ gl gr k =>
    Bool.rec (Bool.rec (gr (Nat.div k 2)) (gl (Nat.div k 2)) (Nat.beq (Nat.mod k 2) 0)) v (Nat.beq k 0)) t
noncomputable def single (x : Option α) (f : Nat) : Nat → Tr α :=
  Nat.rec (motive := fun _ => Nat → Tr α) (fun _ => .n .e x .e) (fun _ ih k =>
    Bool.rec (Bool.rec (.n .e none (ih (Nat.div k 2))) (.n (ih (Nat.div k 2)) none .e) (Nat.beq (Nat.mod k 2) 0)) (.n .e x .e) (Nat.beq k 0)) f
noncomputable def put (x : Option α) (t : Tr α) : Nat → Tr α :=
  Tr.rec (motive := fun _ => Nat → Tr α) (fun k => single x 26 k) (fun l v r sl sr k =>
    Bool.rec (Bool.rec (.n l v (sr (Nat.div k 2))) (.n (sl (Nat.div k 2)) v r) (Nat.beq (Nat.mod k 2) 0)) (.n l x r) (Nat.beq k 0)) t
theorem get_e (k : Nat) : (Tr.e : Tr α).get k = none := rfl
theorem get_n (l r : Tr α) (v : Option α) (k : Nat) : (Tr.n l v r).get k = if k = 0 then v else if k % 2 = 0 then l.get (k / 2) else r.get (k / 2) := by
  show Bool.rec (motive := fun _ => Option α) (Bool.rec (motive := fun _ => Option α) (r.get (k / 2)) (l.get (k / 2)) (Nat.beq (k % 2) 0)) v (Nat.beq k 0) = _
  by_cases h : k = 0
  · subst h; rfl
  · have h1 : Nat.beq k 0 = false := by cases k <;> simp_all [Nat.beq]
    rw [h1, if_neg h]
    by_cases h2 : k % 2 = 0
    · rw [h2]; rfl
    · have h3 : Nat.beq (k % 2) 0 = false := by cases hk : k % 2 <;> simp_all [Nat.beq]
      rw [h3, if_neg h2]
theorem single_zero (x : Option α) (k : Nat) : single x 0 k = .n .e x .e := rfl
theorem single_succ (x : Option α) (f k : Nat) : single x (f + 1) k = if k = 0 then .n .e x .e else if k % 2 = 0 then .n (single x f (k / 2)) none .e else .n .e none (single x f (k / 2)) := by
  show Bool.rec (motive := fun _ => Tr α) (Bool.rec (motive := fun _ => Tr α) (Tr.n .e none (single x f (k / 2))) (.n (single x f (k / 2)) none .e) (Nat.beq (k % 2) 0)) (.n .e x .e) (Nat.beq k 0) = _
  by_cases h : k = 0
  · subst h; rfl
  · have h1 : Nat.beq k 0 = false := by cases k <;> simp_all [Nat.beq]
    rw [h1, if_neg h]
    by_cases h2 : k % 2 = 0
    · rw [h2]; rfl
    · have h3 : Nat.beq (k % 2) 0 = false := by cases hk : k % 2 <;> simp_all [Nat.beq]
      rw [h3, if_neg h2]
theorem put_e (x : Option α) (k : Nat) : put x .e k = single x 26 k := rfl
theorem put_n (x : Option α) (l r : Tr α) (v : Option α) (k : Nat) : put x (.n l v r) k = if k = 0 then .n l x r else if k % 2 = 0 then .n (put x l (k / 2)) v r else .n l v (put x r (k / 2)) := by
  show Bool.rec (motive := fun _ => Tr α) (Bool.rec (motive := fun _ => Tr α) (Tr.n l v (put x r (k / 2))) (.n (put x l (k / 2)) v r) (Nat.beq (k % 2) 0)) (.n l x r) (Nat.beq k 0) = _
  by_cases h : k = 0
  · subst h; rfl
  · have h1 : Nat.beq k 0 = false := by cases k <;> simp_all [Nat.beq]
    rw [h1, if_neg h]
    by_cases h2 : k % 2 = 0
    · rw [h2]; rfl
    · have h3 : Nat.beq (k % 2) 0 = false := by cases hk : k % 2 <;> simp_all [Nat.beq]
      rw [h3, if_neg h2]
theorem get_single (x : Option α) : ∀ (f k j : Nat), k < 2 ^ f → (single x f k).get j = if j = k then x else none := by
  intro f
  induction f with
  | zero =>
    intro k j hk
    obtain rfl : k = 0 := by simpa using hk
    rw [single_zero, get_n]
    by_cases h : j = 0 <;> simp [h, get_e]
  | succ f ih =>
    intro k j hk
    have hk2 : k / 2 < 2 ^ f := by rw [Nat.pow_succ] at hk; omega
    rw [single_succ]
    by_cases h0 : k = 0
    · rw [if_pos h0, get_n]
      by_cases h : j = 0 <;> simp [h, get_e, h0]
    · rw [if_neg h0]
      by_cases h2 : k % 2 = 0
      · rw [if_pos h2, get_n]
        by_cases hj : j = 0
        · rw [if_pos hj, if_neg (by omega)]
        · rw [if_neg hj]
          by_cases hj2 : j % 2 = 0
          · rw [if_pos hj2, ih _ _ hk2]
            by_cases h : j = k
            · rw [if_pos h, if_pos (by omega)]
            · rw [if_neg h, if_neg (by omega)]
          · rw [if_neg hj2, get_e, if_neg (by omega)]
      · rw [if_neg h2, get_n]
        by_cases hj : j = 0
        · rw [if_pos hj, if_neg (by omega)]
        · rw [if_neg hj]
          by_cases hj2 : j % 2 = 0
          · rw [if_pos hj2, get_e, if_neg (by omega)]
          · rw [if_neg hj2, ih _ _ hk2]
            by_cases h : j = k
            · rw [if_pos h, if_pos (by omega)]
            · rw [if_neg h, if_neg (by omega)]
/-- The numbers that a trie takes. -/
def inB (k : Nat) : Bool := Nat.blt k 67108864
theorem inB_lt {k : Nat} (h : inB k = true) : k < 2 ^ 26 := by
  have h1 : k < 67108864 := by
    have e : (Nat.blt k 67108864 = true) = (k < 67108864) := Nat.blt_eq
    exact e.mp h
  exact h1
theorem get_put (x : Option α) (t : Tr α) : ∀ (k j : Nat), k < 2 ^ 26 → (put x t k).get j = if j = k then x else t.get j := by
  induction t with
  | e => intro k j hk; rw [put_e, get_single _ _ _ _ hk, get_e]
  | n l v r ihl ihr =>
    intro k j hk
    have hk2 : k / 2 < 2 ^ 26 := Nat.lt_of_le_of_lt (Nat.div_le_self _ _) hk
    rw [put_n]
    by_cases h0 : k = 0
    · rw [if_pos h0, get_n, get_n]
      subst h0
      by_cases h : j = 0
      · simp [h]
      · rw [if_neg h, if_neg h, if_neg h]
    · rw [if_neg h0]
      by_cases h2 : k % 2 = 0
      · rw [if_pos h2, get_n, get_n]
        by_cases hj : j = 0
        · rw [if_pos hj, if_pos hj, if_neg (by omega)]
        · rw [if_neg hj, if_neg hj]
          by_cases hj2 : j % 2 = 0
          · rw [if_pos hj2, if_pos hj2, ihl _ _ hk2]
            by_cases h : j = k
            · rw [if_pos h, if_pos (by omega)]
            · rw [if_neg h, if_neg (by omega)]
          · rw [if_neg hj2, if_neg hj2, if_neg (by omega)]
      · rw [if_neg h2, get_n, get_n]
        by_cases hj : j = 0
        · rw [if_pos hj, if_pos hj, if_neg (by omega)]
        · rw [if_neg hj, if_neg hj]
          by_cases hj2 : j % 2 = 0
          · rw [if_pos hj2, if_pos hj2, if_neg (by omega)]
          · rw [if_neg hj2, if_neg hj2, ihr _ _ hk2]
            by_cases h : j = k
            · rw [if_pos h, if_pos (by omega)]
            · rw [if_neg h, if_neg (by omega)]
end Tr

/-! ### abstract values -/
inductive AV where
  | bool (b : Bool)
  | int (k : IntKind) (n : Int)
  | str (l : List UInt8)
  | ptr (p : Option (Nat × Nat))
  | slc (p : Option (Nat × Nat)) (len cap : Nat) (ex : Bool)
  | send (b o0 o1 : Nat) (ex : Bool)
  | map (r : Option Nat)
  | func (f : Nat) (first captured : List AV)
  | nilFunc
  | iface (t : TypeId) (v : AV)
  | nilIface
  | agg (cs : List AV)
  | tup (vs : List AV)

/-- Where an abstract block stands, and how much room it has behind what is known. -/
abbrev Env := Nat → Option (Nat × Nat)

mutual
def conc (E : Env) : AV → Option Value
  | .bool b => some (.bool b)
  | .int k n => some (.int k n)
  | .str l => some (.string ⟨l.toArray⟩)
  | .ptr none => some (.pointer none)
  | .ptr (some (b, o)) => (E b).map fun r => .pointer (some ⟨r.1, o, none⟩)
  | .slc none n c _ => some (.slice none n c)
  | .slc (some (b, o)) n c ex => (E b).map fun r => .slice (some ⟨r.1, o, none⟩) n (if ex then c else c + r.2)
  | .send b o0 o1 ex => (E b).map fun r => .slice (some ⟨r.1, if r.2 = 0 then o0 else o1, none⟩) 0 (if ex then 0 else r.2)
  | .map none => some (.map none)
  | .map (some b) => (E b).map fun r => .map (some r.1)
  | .func f a c => (concs E a).bind fun a' => (concs E c).map fun c' => .func (.func f) a'.toArray c'.toArray
  | .nilFunc => some .nilFunc
  | .iface t v => (conc E v).map fun c => .iface t c
  | .nilIface => some .nilIface
  | .agg cs => (concs E cs).map fun l => .agg l.toArray
  | .tup vs => (concs E vs).map fun l => .tuple l.toArray
def concs (E : Env) : List AV → Option (List Value)
  | [] => some []
  | v :: vs => (conc E v).bind fun c => (concs E vs).map fun cs => c :: cs
end

/-- E' says all that E says. -/
def Env.le (E E' : Env) : Prop := ∀ b r, E b = some r → E' b = some r
theorem Env.le.refl (E : Env) : E.le E := fun _ _ h => h
theorem Env.le.trans {E E' E'' : Env} (h : E.le E') (h' : E'.le E'') : E.le E'' := fun b r hb => h' b r (h b r hb)

mutual
theorem conc_mono {E E' : Env} (h : E.le E') : ∀ (v : AV) (c : Value), conc E v = some c → conc E' v = some c
  | .bool b, c, hc => hc
  | .int k n, c, hc => hc
  | .str l, c, hc => hc
  | .ptr none, c, hc => hc
  | .ptr (some (b, o)), c, hc => by
    simp only [conc, Option.map_eq_some_iff] at hc ⊢
    obtain ⟨r, hr, e⟩ := hc
    exact ⟨r, h b r hr, e⟩
  | .slc none n cp _, c, hc => hc
  | .slc (some (b, o)) n cp ex, c, hc => by
    simp only [conc, Option.map_eq_some_iff] at hc ⊢
    obtain ⟨r, hr, e⟩ := hc
    exact ⟨r, h b r hr, e⟩
  | .send b o0 o1 ex, c, hc => by
    simp only [conc, Option.map_eq_some_iff] at hc ⊢
    obtain ⟨r, hr, e⟩ := hc
    exact ⟨r, h b r hr, e⟩
  | .map none, c, hc => hc
  | .map (some b), c, hc => by
    simp only [conc, Option.map_eq_some_iff] at hc ⊢
    obtain ⟨r, hr, e⟩ := hc
    exact ⟨r, h b r hr, e⟩
  | .func f a cp, c, hc => by
    simp only [conc, Option.bind_eq_some_iff, Option.map_eq_some_iff] at hc ⊢
    obtain ⟨a', ha, c', hc', e⟩ := hc
    exact ⟨a', concs_mono h a a' ha, c', concs_mono h cp c' hc', e⟩
  | .nilFunc, c, hc => hc
  | .iface t v, c, hc => by
    simp only [conc, Option.map_eq_some_iff] at hc ⊢
    obtain ⟨r, hr, e⟩ := hc
    exact ⟨r, conc_mono h v r hr, e⟩
  | .nilIface, c, hc => hc
  | .agg cs, c, hc => by
    simp only [conc, Option.map_eq_some_iff] at hc ⊢
    obtain ⟨r, hr, e⟩ := hc
    exact ⟨r, concs_mono h cs r hr, e⟩
  | .tup vs, c, hc => by
    simp only [conc, Option.map_eq_some_iff] at hc ⊢
    obtain ⟨r, hr, e⟩ := hc
    exact ⟨r, concs_mono h vs r hr, e⟩
theorem concs_mono {E E' : Env} (h : E.le E') : ∀ (vs : List AV) (cs : List Value), concs E vs = some cs → concs E' vs = some cs
  | [], _, hc => hc
  | v :: vs, cs, hc => by
    simp only [concs, Option.bind_eq_some_iff, Option.map_eq_some_iff] at hc ⊢
    obtain ⟨c, h1, ds, h2, e⟩ := hc
    exact ⟨c, conc_mono h v c h1, ds, concs_mono h vs ds h2, e⟩
end
theorem concs_nil {E : Env} {cs : List Value} (h : concs E [] = some cs) : cs = [] := by
  simp only [concs, Option.some.injEq] at h; exact h.symm
theorem concs_cons {E : Env} {v : AV} {vs : List AV} {cs : List Value} (h : concs E (v :: vs) = some cs) : ∃ c ds, cs = c :: ds ∧ conc E v = some c ∧ concs E vs = some ds := by
  simp only [concs, Option.bind_eq_some_iff, Option.map_eq_some_iff] at h
  obtain ⟨c, h1, ds, h2, e⟩ := h
  exact ⟨c, ds, e.symm, h1, h2⟩
theorem concs_cons_mk {E : Env} {v : AV} {vs : List AV} {c : Value} {ds : List Value} (h1 : conc E v = some c) (h2 : concs E vs = some ds) : concs E (v :: vs) = some (c :: ds) := by
  simp only [concs, h1, h2, Option.bind_some, Option.map_some]
theorem concs_length {E : Env} : ∀ {vs : List AV} {cs : List Value}, concs E vs = some cs → cs.length = vs.length
  | [], _, h => by rw [concs_nil h]; rfl
  | _ :: _, _, h => by
    obtain ⟨c, ds, rfl, -, h2⟩ := concs_cons h
    simp [concs_length h2]
theorem concs_get {E : Env} : ∀ {vs : List AV} {cs : List Value} {i : Nat} {v : AV}, concs E vs = some cs → vs[i]? = some v → ∃ c, cs[i]? = some c ∧ conc E v = some c
  | [], _, _, _, _, h => by simp at h
  | x :: vs, cs, i, v, hc, h => by
    obtain ⟨c, ds, rfl, h1, h2⟩ := concs_cons hc
    cases i with
    | zero =>
      simp only [List.getElem?_cons_zero, Option.some.injEq] at h
      subst h
      exact ⟨c, rfl, h1⟩
    | succ i =>
      simp only [List.getElem?_cons_succ] at h
      obtain ⟨c', h3, h4⟩ := concs_get h2 h
      exact ⟨c', by simpa using h3, h4⟩
theorem concs_append {E : Env} : ∀ {vs us : List AV} {cs ds : List Value}, concs E vs = some cs → concs E us = some ds → concs E (vs ++ us) = some (cs ++ ds)
  | [], _, _, _, h1, h2 => by rw [concs_nil h1]; exact h2
  | _ :: _, _, _, _, h1, h2 => by
    obtain ⟨c, es, rfl, h3, h4⟩ := concs_cons h1
    exact concs_cons_mk h3 (concs_append h4 h2)
theorem concs_take {E : Env} : ∀ (n : Nat) {vs : List AV} {cs : List Value}, concs E vs = some cs → concs E (vs.take n) = some (cs.take n)
  | 0, _, _, _ => by simp [concs]
  | _ + 1, [], _, h => by rw [concs_nil h]; simp [concs]
  | n + 1, _ :: _, _, h => by
    obtain ⟨c, es, rfl, h3, h4⟩ := concs_cons h
    exact concs_cons_mk h3 (concs_take n h4)
theorem concs_drop {E : Env} : ∀ (n : Nat) {vs : List AV} {cs : List Value}, concs E vs = some cs → concs E (vs.drop n) = some (cs.drop n)
  | 0, _, _, h => by simpa using h
  | _ + 1, [], _, h => by rw [concs_nil h]; simp [concs]
  | n + 1, _ :: _, _, h => by
    obtain ⟨c, es, rfl, h3, h4⟩ := concs_cons h
    simpa using concs_drop n h4
end Go.Proofs.YtopbojifllnckaaGreatDoor
namespace Go.Proofs.YtopbojifllnckaaGreatDoor

/-- An abstract block: so many cells (what the trie lacks reads as d), or a map's entries. -/
inductive AO where
  | cells (n : Nat) (t : Tr AV) (elem : TypeId) (d : Option AV) (loose : Bool)
  | map (es : List (AV × AV × Nat)) (clock : Nat)
  | iter (m since : Nat) (seen : List Nat) (stepped : Nat)

structure St where
  heap : Tr AO
  next : Nat

noncomputable def rdO (o : AO) (i : Nat) : Option AV :=
  match o with
  | .cells n t _ d _ => bif Nat.blt i n then (match t.get i with | some v => some v | none => d) else none
  | .map _ _ => none
  | .iter _ _ _ _ => none
theorem rdO_put {n : Nat} {t : Tr AV} {e : TypeId} {d : Option AV} {l : Bool} {i j : Nat} {v : AV} (hi : i < 2 ^ 26) (hin : i < n) :
    rdO (.cells n (Tr.put (some v) t i) e d l) j = if j = i then some v else rdO (.cells n t e d l) j := by
  unfold rdO
  simp only [Tr.get_put _ _ _ _ hi]
  by_cases h : j = i
  · subst h
    have : Nat.blt j n = true := by
      have e : (Nat.blt j n = true) = (j < n) := Nat.blt_eq
      exact e.mpr hin
    simp [this]
  · simp [h]

/-- What an abstract block says of a true one; x: the room behind. -/
def ObjOK (P : Program) (E : Env) (x : Nat) : AO → Obj → Prop
  | .cells n t elem d loose, ob => ∃ cs : Array Value, ob = .cells cs elem (0, 0) ∧ cs.size = n + x * P.cellsOf elem ∧ (loose = false → x = 0) ∧
      ∀ i v, rdO (.cells n t elem d loose) i = some v → ∃ c, cs[i]? = some c ∧ conc E v = some c
  | .map es clock, ob => ∃ cs : List MapEntry, ob = .map cs.toArray clock ∧ x = 0 ∧ cs.length = es.length ∧
      ∀ (i : Nat) (k v : AV) (n : Nat), es[i]? = some (k, v, n) → ∃ m : MapEntry, cs[i]? = some m ∧ conc E k = some m.key ∧ conc E v = some m.val ∧ m.born = n
  | .iter m since seen stepped, ob => ∃ r : Nat × Nat, ob = .mapIter (some r.1) since seen.toArray stepped ∧ x = 0 ∧ E m = some r

theorem ObjOK.mono {P : Program} {E E' : Env} {x : Nat} {o : AO} {ob : Obj} (h : ObjOK P E x o ob) (he : E.le E') : ObjOK P E' x o ob := by
  cases o with
  | cells n t elem d loose =>
    obtain ⟨cs, h1, h2, h3, h4⟩ := h
    exact ⟨cs, h1, h2, h3, fun i v hi => by obtain ⟨c, h5, h6⟩ := h4 i v hi; exact ⟨c, h5, conc_mono he v c h6⟩⟩
  | map es clock =>
    obtain ⟨cs, h1, h2, h3, h4⟩ := h
    exact ⟨cs, h1, h2, h3, fun i k v n hi => by obtain ⟨m, h5, h6, h7, h8⟩ := h4 i k v n hi; exact ⟨m, h5, conc_mono he k _ h6, conc_mono he v _ h7, h8⟩⟩
  | iter m since seen stepped =>
    obtain ⟨r, h1, h2, h3⟩ := h
    exact ⟨r, h1, h2, he m r h3⟩

structure Rel (P : Program) (E : Env) (σ : St) (w : World) : Prop where
  obj : ∀ b o, σ.heap.get b = some o → ∀ r, E b = some r → ∃ ob, w.heap[r.1]? = some ob ∧ ObjOK P E r.2 o ob
  inj : ∀ b b' o o' r r', σ.heap.get b = some o → σ.heap.get b' = some o' → E b = some r → E b' = some r' → r.1 = r'.1 → b = b'
  rng : ∀ b r, E b = some r → b < σ.next ∧ r.1 < w.heap.size
  live : ∀ b o, σ.heap.get b = some o → b < σ.next

/-- The true blocks of what lives. -/
def Rg (E : Env) (σ : St) (c : Nat) : Prop := ∃ b o r, σ.heap.get b = some o ∧ E b = some r ∧ r.1 = c

structure Step (P : Program) (E : Env) (σ : St) (w : World) (E' : Env) (σ' : St) (w' : World) : Prop where
  le : E.le E'
  rel : Rel P E' σ' w'
  os : w'.os = w.os
  tape : w'.tape = w.tape
  output : w'.output = w.output
  size : w.heap.size ≤ w'.heap.size
  frame : ∀ c, c < w.heap.size → ¬ Rg E σ c → w'.heap[c]? = w.heap[c]?
  own : ∀ c, Rg E' σ' c → Rg E σ c ∨ w.heap.size ≤ c
  next : σ.next ≤ σ'.next
  fresh : ∀ b r, E b = none → E' b = some r → σ.next ≤ b

section
variable {P : Program} {E E' E'' : Env} {σ σ' σ'' : St} {w w' w'' : World}
theorem Step.refl (h : Rel P E σ w) : Step P E σ w E σ w :=
  ⟨Env.le.refl E, h, rfl, rfl, rfl, Nat.le_refl _, fun _ _ _ => rfl, fun _ h => Or.inl h, Nat.le_refl _, fun b r h1 h2 => by rw [h1] at h2; cases h2⟩
theorem Step.trans (h : Step P E σ w E' σ' w') (k : Step P E' σ' w' E'' σ'' w'') : Step P E σ w E'' σ'' w'' := by
  refine ⟨h.le.trans k.le, k.rel, k.os.trans h.os, k.tape.trans h.tape, k.output.trans h.output, Nat.le_trans h.size k.size, fun c hc hn => ?_, fun c hc => ?_, Nat.le_trans h.next k.next, fun b r h1 h2 => ?_⟩
  · refine (k.frame c (Nat.lt_of_lt_of_le hc h.size) fun hr => ?_).trans (h.frame c hc hn)
    rcases h.own c hr with h1 | h1
    · exact hn h1
    · omega
  · rcases k.own c hc with h1 | h1
    · exact h.own c h1
    · exact Or.inr (Nat.le_trans h.size h1)
  · cases hb : E' b with
    | some r' =>
      have := k.le b r' hb
      rw [h2] at this
      cases this
      exact h.fresh b r h1 hb
    | none => exact Nat.le_trans h.next (k.fresh b r hb h2)
theorem Step.keep (h' : Rel P E σ w') (h1 : w'.os = w.os) (h2 : w'.tape = w.tape) (h3 : w'.output = w.output) (h4 : w.heap.size ≤ w'.heap.size) (h5 : ∀ c, c < w.heap.size → w'.heap[c]? = w.heap[c]?) : Step P E σ w E σ w' :=
  ⟨Env.le.refl E, h', h1, h2, h3, h4, fun c hc _ => h5 c hc, fun _ h => Or.inl h, Nat.le_refl _, fun b r h1 h2 => by rw [h1] at h2; cases h2⟩
theorem Step.drewN (h : Rel P E σ w) (q : Nat) : Step P E σ w E σ (w.drewN q) :=
  Step.keep ⟨h.obj, h.inj, h.rng, h.live⟩ rfl rfl rfl (Nat.le_refl _) (fun _ _ => rfl)
/-! ### a new block -/
noncomputable def St.add (σ : St) (o : AO) : St := ⟨Tr.put (some o) σ.heap σ.next, σ.next + 1⟩
def Env.add (E : Env) (b : Nat) (r : Nat × Nat) : Env := fun b' => if b' = b then some r else E b'
theorem Env.add_le {E : Env} {b : Nat} {r : Nat × Nat} (h : E b = none) : E.le (E.add b r) := fun b' r' hb => by
  unfold Env.add
  by_cases hbb : b' = b
  · subst hbb; rw [h] at hb; cases hb
  · rw [if_neg hbb]; exact hb
theorem Env.add_self (E : Env) (b : Nat) (r : Nat × Nat) : (E.add b r) b = some r := by unfold Env.add; rw [if_pos rfl]
theorem next_none (h : Rel P E σ w) : E σ.next = none := by
  cases hb : E σ.next with
  | none => rfl
  | some r => exact absurd (h.rng _ _ hb).1 (Nat.lt_irrefl _)
theorem Step.alloc (h : Rel P E σ w) {o : AO} {ob : Obj} {x : Nat} (hin : σ.next < 2 ^ 26) (ho : ObjOK P (E.add σ.next (w.heap.size, x)) x o ob) :
    Step P E σ w (E.add σ.next (w.heap.size, x)) (σ.add o) (w.alloc ob) := by
  have hn := next_none h
  have hle := Env.add_le (r := (w.heap.size, x)) hn
  have hk : ∀ c, c < w.heap.size → (w.alloc ob).heap[c]? = w.heap[c]? := fun c hc => Go.RowKit.Below.heap_alloc w ob c hc
  have hself := Env.add_self E σ.next (w.heap.size, x)
  have hold : ∀ b r, b ≠ σ.next → (E.add σ.next (w.heap.size, x)) b = some r → E b = some r := fun b r hb hr => by
    unfold Env.add at hr; rwa [if_neg hb] at hr
  refine ⟨hle, ⟨fun b o' hb r hr => ?_, fun b b' o1 o2 r r' hb hb' hr hr' hrr => ?_, fun b r hr => ?_, fun b o' hb => ?_⟩, rfl, rfl, rfl, by simp, fun c hc _ => hk c hc, fun c hc => ?_, Nat.le_succ _, fun b r h1 h2 => ?_⟩
  · unfold St.add at hb
    simp only [Tr.get_put _ _ _ _ hin] at hb
    by_cases hbb : b = σ.next
    · subst hbb
      rw [if_pos rfl] at hb
      cases hb
      rw [hself] at hr
      cases hr
      exact ⟨ob, heap_alloc_new w ob, ho⟩
    · rw [if_neg hbb] at hb
      have hr' := hold b r hbb hr
      obtain ⟨ob', h1, h2⟩ := h.obj b o' hb r hr'
      exact ⟨ob', (hk _ (h.rng b r hr').2).trans h1, h2.mono hle⟩
  · unfold St.add at hb hb'
    simp only [Tr.get_put _ _ _ _ hin] at hb hb'
    by_cases hbb : b = σ.next
    · by_cases hbb' : b' = σ.next
      · rw [hbb, hbb']
      · rw [if_neg hbb'] at hb'
        subst hbb
        rw [hself] at hr
        cases hr
        have := (h.rng b' r' (hold b' r' hbb' hr')).2
        simp only at hrr
        omega
    · rw [if_neg hbb] at hb
      by_cases hbb' : b' = σ.next
      · subst hbb'
        rw [hself] at hr'
        cases hr'
        have := (h.rng b r (hold b r hbb hr)).2
        simp only at hrr
        omega
      · rw [if_neg hbb'] at hb'
        exact h.inj b b' o1 o2 r r' hb hb' (hold b r hbb hr) (hold b' r' hbb' hr') hrr
  · by_cases hbb : b = σ.next
    · subst hbb
      rw [hself] at hr
      cases hr
      exact ⟨Nat.lt_succ_self _, by simp⟩
    · have := h.rng b r (hold b r hbb hr)
      exact ⟨Nat.lt_succ_of_lt this.1, by simp; omega⟩
  · unfold St.add at hb
    simp only [Tr.get_put _ _ _ _ hin] at hb
    by_cases hbb : b = σ.next
    · subst hbb; exact Nat.lt_succ_self _
    · rw [if_neg hbb] at hb
      exact Nat.lt_succ_of_lt (h.live b o' hb)
  · obtain ⟨b, o', r, hb, hr, rfl⟩ := hc
    unfold St.add at hb
    simp only [Tr.get_put _ _ _ _ hin] at hb
    by_cases hbb : b = σ.next
    · subst hbb
      rw [hself] at hr
      cases hr
      exact Or.inr (Nat.le_refl _)
    · rw [if_neg hbb] at hb
      exact Or.inl ⟨b, o', r, hb, hold b r hbb hr, rfl⟩
  · by_cases hbb : b = σ.next
    · omega
    · rw [hold b r hbb h2] at h1
      cases h1

/-! ### a block is changed in place -/
noncomputable def St.chg (σ : St) (b : Nat) (o : AO) : St := ⟨Tr.put (some o) σ.heap b, σ.next⟩
theorem Step.change (h : Rel P E σ w) {b : Nat} {o o' : AO} {r : Nat × Nat} {ob : Obj} {w' : World} (hin : b < 2 ^ 26) (hb : σ.heap.get b = some o) (hr : E b = some r)
    (hob : w'.heap[r.1]? = some ob) (ho : ObjOK P E r.2 o' ob) (h1 : w'.os = w.os) (h2 : w'.tape = w.tape) (h3 : w'.output = w.output) (h4 : w'.heap.size = w.heap.size) (h5 : ∀ c, c ≠ r.1 → w'.heap[c]? = w.heap[c]?) :
    Step P E σ w E (σ.chg b o') w' := by
  have hlive : ∀ b1 o1, (σ.chg b o').heap.get b1 = some o1 → ∃ o2, σ.heap.get b1 = some o2 := fun b1 o1 hb1 => by
    unfold St.chg at hb1
    simp only [Tr.get_put _ _ _ _ hin] at hb1
    by_cases hbb : b1 = b
    · subst hbb; exact ⟨o, hb⟩
    · rw [if_neg hbb] at hb1; exact ⟨o1, hb1⟩
  refine ⟨Env.le.refl E, ⟨fun b1 o1 hb1 r1 hr1 => ?_, fun b1 b2 o1 o2 r1 r2 hb1 hb2 hr1 hr2 hrr => ?_, fun b1 r1 hr1 => ⟨(h.rng b1 r1 hr1).1, by rw [h4]; exact (h.rng b1 r1 hr1).2⟩, fun b1 o1 hb1 => ?_⟩, h1, h2, h3, Nat.le_of_eq h4.symm, fun c _ hn => h5 c fun e => hn ⟨b, o, r, hb, hr, e.symm⟩, fun c hc => ?_, Nat.le_refl _, fun b1 r1 e1 e2 => by rw [e1] at e2; cases e2⟩
  · by_cases hbb : b1 = b
    · subst hbb
      unfold St.chg at hb1
      simp only [Tr.get_put _ _ _ _ hin] at hb1
      rw [if_pos trivial] at hb1
      cases hb1
      rw [hr] at hr1
      cases hr1
      exact ⟨ob, hob, ho⟩
    · have hb1' := hb1
      unfold St.chg at hb1'
      simp only [Tr.get_put _ _ _ _ hin] at hb1'
      rw [if_neg hbb] at hb1'
      obtain ⟨ob1, e1, e2⟩ := h.obj b1 o1 hb1' r1 hr1
      refine ⟨ob1, (h5 r1.1 fun e => hbb (h.inj b1 b o1 o r1 r hb1' hb hr1 hr e)).trans e1, e2⟩
  · obtain ⟨o3, h6⟩ := hlive b1 o1 hb1
    obtain ⟨o4, h7⟩ := hlive b2 o2 hb2
    exact h.inj b1 b2 o3 o4 r1 r2 h6 h7 hr1 hr2 hrr
  · obtain ⟨o3, h6⟩ := hlive b1 o1 hb1
    exact h.live b1 o3 h6
  · obtain ⟨b1, o1, r1, hb1, hr1, e⟩ := hc
    obtain ⟨o3, h6⟩ := hlive b1 o1 hb1
    exact Or.inl ⟨b1, o3, r1, h6, hr1, e⟩
/-! ### a block is forgotten -/
noncomputable def St.drop (σ : St) (b : Nat) : St := ⟨Tr.put none σ.heap b, σ.next⟩
theorem drop_get {b b1 : Nat} {o1 : AO} (hin : b < 2 ^ 26) (h : (σ.drop b).heap.get b1 = some o1) : b1 ≠ b ∧ σ.heap.get b1 = some o1 := by
  unfold St.drop at h
  simp only [Tr.get_put _ _ _ _ hin] at h
  by_cases hbb : b1 = b
  · rw [if_pos hbb] at h; cases h
  · rw [if_neg hbb] at h; exact ⟨hbb, h⟩
theorem Step.drop (h : Rel P E σ w) {b : Nat} (hin : b < 2 ^ 26) : Step P E σ w E (σ.drop b) w :=
  ⟨Env.le.refl E, ⟨fun b1 o1 hb1 r1 hr1 => h.obj b1 o1 (drop_get hin hb1).2 r1 hr1, fun b1 b2 o1 o2 r1 r2 hb1 hb2 hr1 hr2 hrr => h.inj b1 b2 o1 o2 r1 r2 (drop_get hin hb1).2 (drop_get hin hb2).2 hr1 hr2 hrr, h.rng, fun b1 o1 hb1 => h.live b1 o1 (drop_get hin hb1).2⟩,
    rfl, rfl, rfl, Nat.le_refl _, fun _ _ _ => rfl, fun c hc => by obtain ⟨b1, o1, r1, hb1, hr1, e⟩ := hc; exact Or.inl ⟨b1, o1, r1, (drop_get hin hb1).2, hr1, e⟩, Nat.le_refl _, fun b1 r1 e1 e2 => by rw [e1] at e2; cases e2⟩
end
end Go.Proofs.YtopbojifllnckaaGreatDoor
