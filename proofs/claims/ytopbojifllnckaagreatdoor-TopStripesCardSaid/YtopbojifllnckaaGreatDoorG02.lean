/- The evaluator's slots; cells that are read, written, made. Operations that read no memory. -/
import Derived.Laws.Entries
import Derived.ChangeKeysEq
import Derived.Laws.Strings
import Derived.Test.YtopbojifllnckaaGreatDoorG01
namespace Go.Proofs.YtopbojifllnckaaGreatDoor

theorem blt_lt {a b : Nat} (h : Nat.blt a b = true) : a < b := by
  have e : (Nat.blt a b = true) = (a < b) := Nat.blt_eq
  exact e.mp h
theorem beq_eq {a b : Nat} (h : Nat.beq a b = true) : a = b := Nat.eq_of_beq_eq_true h

/-! ### slots -/
inductive N16 (α : Type) where
  | n (a0 a1 a2 a3 a4 a5 a6 a7 a8 a9 a10 a11 a12 a13 a14 a15 : α)
structure S16 (α : Type) where
  run : N16 α → α
structure U16 (α : Type) where
  run : (α → α) → N16 α → N16 α
noncomputable def s16 (α : Type) (i : Nat) : S16 α := match i with
  | 0 => ⟨fun t => N16.rec (motive := fun _ => α) (fun a0 _ _ _ _ _ _ _ _ _ _ _ _ _ _ _ => a0) t⟩
  | 1 => ⟨fun t => N16.rec (motive := fun _ => α) (fun _ a1 _ _ _ _ _ _ _ _ _ _ _ _ _ _ => a1) t⟩
  | 2 => ⟨fun t => N16.rec (motive := fun _ => α) (fun _ _ a2 _ _ _ _ _ _ _ _ _ _ _ _ _ => a2) t⟩
  | 3 => ⟨fun t => N16.rec (motive := fun _ => α) (fun _ _ _ a3 _ _ _ _ _ _ _ _ _ _ _ _ => a3) t⟩
  | 4 => ⟨fun t => N16.rec (motive := fun _ => α) (fun _ _ _ _ a4 _ _ _ _ _ _ _ _ _ _ _ => a4) t⟩
  | 5 => ⟨fun t => N16.rec (motive := fun _ => α) (fun _ _ _ _ _ a5 _ _ _ _ _ _ _ _ _ _ => a5) t⟩
  | 6 => ⟨fun t => N16.rec (motive := fun _ => α) (fun _ _ _ _ _ _ a6 _ _ _ _ _ _ _ _ _ => a6) t⟩
  | 7 => ⟨fun t => N16.rec (motive := fun _ => α) (fun _ _ _ _ _ _ _ a7 _ _ _ _ _ _ _ _ => a7) t⟩
  | 8 => ⟨fun t => N16.rec (motive := fun _ => α) (fun _ _ _ _ _ _ _ _ a8 _ _ _ _ _ _ _ => a8) t⟩
  | 9 => ⟨fun t => N16.rec (motive := fun _ => α) (fun _ _ _ _ _ _ _ _ _ a9 _ _ _ _ _ _ => a9) t⟩
  | 10 => ⟨fun t => N16.rec (motive := fun _ => α) (fun _ _ _ _ _ _ _ _ _ _ a10 _ _ _ _ _ => a10) t⟩
  | 11 => ⟨fun t => N16.rec (motive := fun _ => α) (fun _ _ _ _ _ _ _ _ _ _ _ a11 _ _ _ _ => a11) t⟩
  | 12 => ⟨fun t => N16.rec (motive := fun _ => α) (fun _ _ _ _ _ _ _ _ _ _ _ _ a12 _ _ _ => a12) t⟩
  | 13 => ⟨fun t => N16.rec (motive := fun _ => α) (fun _ _ _ _ _ _ _ _ _ _ _ _ _ a13 _ _ => a13) t⟩
  | 14 => ⟨fun t => N16.rec (motive := fun _ => α) (fun _ _ _ _ _ _ _ _ _ _ _ _ _ _ a14 _ => a14) t⟩
  | _ => ⟨fun t => N16.rec (motive := fun _ => α) (fun _ _ _ _ _ _ _ _ _ _ _ _ _ _ _ a15 => a15) t⟩
noncomputable def u16 (α : Type) (i : Nat) : U16 α := match i with
  | 0 => ⟨fun f t => N16.rec (motive := fun _ => N16 α) (fun a0 a1 a2 a3 a4 a5 a6 a7 a8 a9 a10 a11 a12 a13 a14 a15 => .n (f a0) a1 a2 a3 a4 a5 a6 a7 a8 a9 a10 a11 a12 a13 a14 a15) t⟩
  | 1 => ⟨fun f t => N16.rec (motive := fun _ => N16 α) (fun a0 a1 a2 a3 a4 a5 a6 a7 a8 a9 a10 a11 a12 a13 a14 a15 => .n a0 (f a1) a2 a3 a4 a5 a6 a7 a8 a9 a10 a11 a12 a13 a14 a15) t⟩
  | 2 => ⟨fun f t => N16.rec (motive := fun _ => N16 α) (fun a0 a1 a2 a3 a4 a5 a6 a7 a8 a9 a10 a11 a12 a13 a14 a15 => .n a0 a1 (f a2) a3 a4 a5 a6 a7 a8 a9 a10 a11 a12 a13 a14 a15) t⟩
  | 3 => ⟨fun f t => N16.rec (motive := fun _ => N16 α) (fun a0 a1 a2 a3 a4 a5 a6 a7 a8 a9 a10 a11 a12 a13 a14 a15 => .n a0 a1 a2 (f a3) a4 a5 a6 a7 a8 a9 a10 a11 a12 a13 a14 a15) t⟩
  | 4 => ⟨fun f t => N16.rec (motive := fun _ => N16 α) (fun a0 a1 a2 a3 a4 a5 a6 a7 a8 a9 a10 a11 a12 a13 a14 a15 => .n a0 a1 a2 a3 (f a4) a5 a6 a7 a8 a9 a10 a11 a12 a13 a14 a15) t⟩
  | 5 => ⟨fun f t => N16.rec (motive := fun _ => N16 α) (fun a0 a1 a2 a3 a4 a5 a6 a7 a8 a9 a10 a11 a12 a13 a14 a15 => .n a0 a1 a2 a3 a4 (f a5) a6 a7 a8 a9 a10 a11 a12 a13 a14 a15) t⟩
  | 6 => ⟨fun f t => N16.rec (motive := fun _ => N16 α) (fun a0 a1 a2 a3 a4 a5 a6 a7 a8 a9 a10 a11 a12 a13 a14 a15 => .n a0 a1 a2 a3 a4 a5 (f a6) a7 a8 a9 a10 a11 a12 a13 a14 a15) t⟩
  | 7 => ⟨fun f t => N16.rec (motive := fun _ => N16 α) (fun a0 a1 a2 a3 a4 a5 a6 a7 a8 a9 a10 a11 a12 a13 a14 a15 => .n a0 a1 a2 a3 a4 a5 a6 (f a7) a8 a9 a10 a11 a12 a13 a14 a15) t⟩
  | 8 => ⟨fun f t => N16.rec (motive := fun _ => N16 α) (fun a0 a1 a2 a3 a4 a5 a6 a7 a8 a9 a10 a11 a12 a13 a14 a15 => .n a0 a1 a2 a3 a4 a5 a6 a7 (f a8) a9 a10 a11 a12 a13 a14 a15) t⟩
  | 9 => ⟨fun f t => N16.rec (motive := fun _ => N16 α) (fun a0 a1 a2 a3 a4 a5 a6 a7 a8 a9 a10 a11 a12 a13 a14 a15 => .n a0 a1 a2 a3 a4 a5 a6 a7 a8 (f a9) a10 a11 a12 a13 a14 a15) t⟩
  | 10 => ⟨fun f t => N16.rec (motive := fun _ => N16 α) (fun a0 a1 a2 a3 a4 a5 a6 a7 a8 a9 a10 a11 a12 a13 a14 a15 => .n a0 a1 a2 a3 a4 a5 a6 a7 a8 a9 (f a10) a11 a12 a13 a14 a15) t⟩
  | 11 => ⟨fun f t => N16.rec (motive := fun _ => N16 α) (fun a0 a1 a2 a3 a4 a5 a6 a7 a8 a9 a10 a11 a12 a13 a14 a15 => .n a0 a1 a2 a3 a4 a5 a6 a7 a8 a9 a10 (f a11) a12 a13 a14 a15) t⟩
  | 12 => ⟨fun f t => N16.rec (motive := fun _ => N16 α) (fun a0 a1 a2 a3 a4 a5 a6 a7 a8 a9 a10 a11 a12 a13 a14 a15 => .n a0 a1 a2 a3 a4 a5 a6 a7 a8 a9 a10 a11 (f a12) a13 a14 a15) t⟩
  | 13 => ⟨fun f t => N16.rec (motive := fun _ => N16 α) (fun a0 a1 a2 a3 a4 a5 a6 a7 a8 a9 a10 a11 a12 a13 a14 a15 => .n a0 a1 a2 a3 a4 a5 a6 a7 a8 a9 a10 a11 a12 (f a13) a14 a15) t⟩
  | 14 => ⟨fun f t => N16.rec (motive := fun _ => N16 α) (fun a0 a1 a2 a3 a4 a5 a6 a7 a8 a9 a10 a11 a12 a13 a14 a15 => .n a0 a1 a2 a3 a4 a5 a6 a7 a8 a9 a10 a11 a12 a13 (f a14) a15) t⟩
  | _ => ⟨fun f t => N16.rec (motive := fun _ => N16 α) (fun a0 a1 a2 a3 a4 a5 a6 a7 a8 a9 a10 a11 a12 a13 a14 a15 => .n a0 a1 a2 a3 a4 a5 a6 a7 a8 a9 a10 a11 a12 a13 a14 (f a15)) t⟩
theorem lt16 {i : Nat} (h : i < 16) : i = 0 ∨ i = 1 ∨ i = 2 ∨ i = 3 ∨ i = 4 ∨ i = 5 ∨ i = 6 ∨ i = 7 ∨ i = 8 ∨ i = 9 ∨ i = 10 ∨ i = 11 ∨ i = 12 ∨ i = 13 ∨ i = 14 ∨ i = 15 := by omega
theorem su16 {α : Type} (f : α → α) (t : N16 α) {i j : Nat} (hi : i < 16) (hj : j < 16) : (s16 α j).run ((u16 α i).run f t) = if j = i then f ((s16 α i).run t) else (s16 α j).run t := by
  cases t
  rcases lt16 hi with rfl | rfl | rfl | rfl | rfl | rfl | rfl | rfl | rfl | rfl | rfl | rfl | rfl | rfl | rfl | rfl <;> rcases lt16 hj with rfl | rfl | rfl | rfl | rfl | rfl | rfl | rfl | rfl | rfl | rfl | rfl | rfl | rfl | rfl | rfl <;> rfl
theorem raw (v : AV) (tm : N16 (N16 (Option AV))) {j k : Nat} (hj : j < 256) (hk : k < 256) : (s16 (Option AV) (j % 16)).run ((s16 (N16 (Option AV)) (j / 16)).run ((u16 (N16 (Option AV)) (k / 16)).run ((u16 (Option AV) (k % 16)).run fun _ => some v) tm)) =
    if j = k then some v else (s16 (Option AV) (j % 16)).run ((s16 (N16 (Option AV)) (j / 16)).run tm) := by
  rw [su16 _ _ (by omega) (by omega)]
  by_cases hd : j / 16 = k / 16
  · rw [if_pos hd, su16 _ _ (by omega) (by omega)]
    by_cases hm : j % 16 = k % 16
    · rw [if_pos hm, if_pos (by omega)]
    · rw [if_neg hm, if_neg (by omega), hd]
  · rw [if_neg hd, if_neg (by omega)]
/-- Slots: two levels of sixteen. -/
def Tm : Type := N16 (N16 (Option AV))
namespace Tm
noncomputable def get (tm : Tm) (k : Nat) : Option AV := bif Nat.blt k 256 then (s16 (Option AV) (Nat.mod k 16)).run ((s16 (N16 (Option AV)) (Nat.div k 16)).run tm) else none
noncomputable def put (v : AV) (tm : Tm) (k : Nat) : Tm := (u16 (N16 (Option AV)) (Nat.div k 16)).run ((u16 (Option AV) (Nat.mod k 16)).run fun _ => some v) tm
noncomputable def e1 : N16 (Option AV) := .n none none none none none none none none none none none none none none none none
noncomputable def e : Tm := N16.n e1 e1 e1 e1 e1 e1 e1 e1 e1 e1 e1 e1 e1 e1 e1 e1
def inT (k : Nat) : Bool := Nat.blt k 256
theorem inT_lt {k : Nat} (h : inT k = true) : k < 256 := blt_lt h
theorem get_e (k : Nat) : e.get k = none := by
  unfold get
  cases h : Nat.blt k 256 with
  | false => rfl
  | true =>
    have hk := blt_lt h
    have h1 : Nat.mod k 16 < 16 := Nat.mod_lt _ (by omega)
    have h2 : Nat.div k 16 < 16 := by have : Nat.div k 16 = k / 16 := rfl; omega
    rcases lt16 h2 with q | q | q | q | q | q | q | q | q | q | q | q | q | q | q | q <;> rw [q] <;> rcases lt16 h1 with p | p | p | p | p | p | p | p | p | p | p | p | p | p | p | p <;> rw [p] <;> rfl
theorem get_put (v : AV) (tm : Tm) {k : Nat} (j : Nat) (hk : k < 256) : (put v tm k).get j = if j = k then some v else tm.get j := by
  unfold get
  cases h : Nat.blt j 256 with
  | false =>
    have hj : ¬ j < 256 := fun hl => by
      have e : (Nat.blt j 256 = true) = (j < 256) := Nat.blt_eq
      rw [e.mpr hl] at h
      cases h
    rw [if_neg (by omega)]
    rfl
  | true =>
    have hj := blt_lt h
    have d1 : ∀ n : Nat, Nat.div n 16 = n / 16 := fun _ => rfl
    have d2 : ∀ n : Nat, Nat.mod n 16 = n % 16 := fun _ => rfl
    simp only [cond_true, put, d1, d2]
    exact raw v tm hj hk
end Tm
noncomputable def trT : List AV → Nat → Tm → Tm
  | [], _, t => t
  | v :: vs, k, t => trT vs (k + 1) (Tm.put v t k)
theorem trT_get : ∀ (vs : List AV) (k : Nat) (t : Tm) (i : Nat), k + vs.length ≤ 256 → (trT vs k t).get i = if k ≤ i ∧ i < k + vs.length then vs[i - k]? else t.get i
  | [], k, t, i, _ => by
    simp only [trT, List.length_nil, Nat.add_zero]
    rw [if_neg (by omega)]
  | v :: vs, k, t, i, h => by
    simp only [List.length_cons] at h ⊢
    simp only [trT]
    rw [trT_get vs (k + 1) _ i (by omega), Tm.get_put _ _ _ (by omega)]
    by_cases h1 : i = k
    · subst h1
      rw [if_neg (by omega), if_pos rfl, if_pos (by omega)]
      simp
    · by_cases h2 : k + 1 ≤ i ∧ i < k + 1 + vs.length
      · rw [if_pos h2, if_pos (by omega)]
        have : i - k = (i - (k + 1)) + 1 := by omega
        rw [this]
        simp
      · rw [if_neg h2, if_neg h1, if_neg (by omega)]
def TmR (E : Env) (tm : Tm) (tmps : Array Value) : Prop := ∀ t v, tm.get t = some v → ∃ c, tmps[t]? = some c ∧ conc E v = some c
theorem TmR.mono {E E' : Env} {tm : Tm} {tmps : Array Value} (h : TmR E tm tmps) (he : E.le E') : TmR E' tm tmps := fun t v ht => by
  obtain ⟨c, h1, h2⟩ := h t v ht
  exact ⟨c, h1, conc_mono he v c h2⟩
theorem TmR.put {E : Env} {tm : Tm} {tmps : Array Value} (h : TmR E tm tmps) {d : Nat} {v : AV} {c : Value} (hd : d < 256) (hs : d < tmps.size) (hc : conc E v = some c) : TmR E (Tm.put v tm d) (tmps.setIfInBounds d c) := fun t u ht => by
  rw [Tm.get_put _ _ _ hd] at ht
  by_cases hdt : t = d
  · subst hdt
    rw [if_pos rfl] at ht
    cases ht
    exact ⟨c, by simp [hs], hc⟩
  · rw [if_neg hdt] at ht
    obtain ⟨c', h1, h2⟩ := h t u ht
    exact ⟨c', by rw [Array.getElem?_setIfInBounds_ne (fun e => hdt e.symm)]; exact h1, h2⟩

/-- A constant's abstract value. -/
noncomputable def absV1 : Value → Option AV
  | .bool b => some (.bool b)
  | .int k n => some (.int k n)
  | .string s => some (.str s.data.toList)
  | .pointer none => some (.ptr none)
  | .slice none n c => some (.slc none n c true)
  | .map none => some (.map none)
  | .func (.func f) ⟨[]⟩ ⟨[]⟩ => some (.func f [] [])
  | .nilFunc => some .nilFunc
  | .nilIface => some .nilIface
  | _ => none
theorem absV1_conc (E : Env) {c : Value} {v : AV} (h : absV1 c = some v) : conc E v = some c := by
  unfold absV1 at h
  split at h <;> first | (cases h; done) | (injection h with h; subst h; simp [conc, concs]; done) | (injection h with h; subst h; simp [conc, concs]; rfl)
noncomputable def absL : List Value → Option (List AV)
  | [] => some []
  | c :: cs => match absV1 c, absL cs with
    | some v, some vs => some (v :: vs)
    | _, _ => none
theorem absL_conc (E : Env) : ∀ {cs : List Value} {vs : List AV}, absL cs = some vs → concs E vs = some cs
  | [], vs, h => by simp only [absL, Option.some.injEq] at h; subst h; rfl
  | c :: cs, vs, h => by
    unfold absL at h
    split at h
    · next v us h1 h2 =>
      injection h with h
      subst h
      exact concs_cons_mk (absV1_conc E h1) (absL_conc E h2)
    · cases h
noncomputable def absV (c : Value) : Option AV :=
  match c with
  | .agg cs => (absL cs.toList).map .agg
  | .tuple cs => (absL cs.toList).map .tup
  | c => absV1 c
theorem absV_conc (E : Env) {c : Value} {v : AV} (h : absV c = some v) : conc E v = some c := by
  unfold absV at h
  split at h
  · next cs =>
    obtain ⟨l, h1, rfl⟩ := Option.map_eq_some_iff.1 h
    simp [conc, absL_conc E h1]
  · next cs =>
    obtain ⟨l, h1, rfl⟩ := Option.map_eq_some_iff.1 h
    simp [conc, absL_conc E h1]
  · exact absV1_conc E h
noncomputable def aev (tm : Tm) : Operand → Option AV
  | .tmp t => tm.get t
  | .const v => absV v
  | .func f => some (.func f [] [])
  | .global _ => none
theorem aev_conc {E : Env} {tm : Tm} {a : Act} (h : TmR E tm a.tmps) {x : Operand} {v : AV} (hx : aev tm x = some v) : conc E v = some (a.eval x) := by
  cases x with
  | tmp t =>
    obtain ⟨c, h1, h2⟩ := h t v hx
    show conc E v = some (a.tmps.getD t undef)
    rw [h2, Array.getD_eq_getD_getElem?, h1]
    rfl
  | const c => exact absV_conc E hx
  | func f =>
    simp only [aev, Option.some.injEq] at hx
    subst hx
    simp [conc, concs, Act.eval]
  | global g => cases hx

/-! ### cells -/
noncomputable def AV.one : AV → Bool
  | .agg _ => false
  | .tup _ => false
  | _ => true
theorem one_conc {E : Env} {v : AV} {c : Value} (h : v.one = true) (hc : conc E v = some c) : c.oneCell' = true := by
  cases v with
  | agg cs => cases h
  | tup vs => cases h
  | ptr p => cases p with
    | none => simp only [conc, Option.some.injEq] at hc; subst hc; rfl
    | some q => obtain ⟨b, o⟩ := q; simp only [conc, Option.map_eq_some_iff] at hc; obtain ⟨r, -, rfl⟩ := hc; rfl
  | slc p n cp ex => cases p with
    | none => simp only [conc, Option.some.injEq] at hc; subst hc; rfl
    | some q => obtain ⟨b, o⟩ := q; simp only [conc, Option.map_eq_some_iff] at hc; obtain ⟨r, -, rfl⟩ := hc; rfl
  | send b o0 o1 ex => simp only [conc, Option.map_eq_some_iff] at hc; obtain ⟨r, -, rfl⟩ := hc; rfl
  | map p => cases p with
    | none => simp only [conc, Option.some.injEq] at hc; subst hc; rfl
    | some q => simp only [conc, Option.map_eq_some_iff] at hc; obtain ⟨r, -, rfl⟩ := hc; rfl
  | func f x y => simp only [conc, Option.bind_eq_some_iff, Option.map_eq_some_iff] at hc; obtain ⟨_, _, _, _, rfl⟩ := hc; rfl
  | iface t x => simp only [conc, Option.map_eq_some_iff] at hc; obtain ⟨r, -, rfl⟩ := hc; rfl
  | bool b => simp only [conc, Option.some.injEq] at hc; subst hc; rfl
  | int k n => simp only [conc, Option.some.injEq] at hc; subst hc; rfl
  | str l => simp only [conc, Option.some.injEq] at hc; subst hc; rfl
  | nilFunc => simp only [conc, Option.some.injEq] at hc; subst hc; rfl
  | nilIface => simp only [conc, Option.some.injEq] at hc; subst hc; rfl
/-- The cells of a value. -/
noncomputable def AV.cells : AV → List AV
  | .agg cs => cs
  | v => [v]
theorem cells_conc {E : Env} {v : AV} {c : Value} (hc : conc E v = some c) : concs E v.cells = some c.cells.toList := by
  by_cases h : ∃ cs, v = .agg cs
  · obtain ⟨cs, rfl⟩ := h
    simp only [conc, Option.map_eq_some_iff] at hc
    obtain ⟨l, h1, rfl⟩ := hc
    simpa [AV.cells, Value.cells] using h1
  · have h1 : v.cells = [v] := by cases v <;> first | rfl | exact absurd ⟨_, rfl⟩ h
    have h2 : c.cells = #[c] := by
      cases c with
      | agg cs =>
        exfalso
        cases v with
        | agg l => exact h ⟨l, rfl⟩
        | ptr p => cases p <;> simp [conc] at hc
        | slc p n cp ex => cases p <;> simp [conc] at hc
        | map p => cases p <;> simp [conc] at hc
        | func f x y => simp only [conc, Option.bind_eq_some_iff, Option.map_eq_some_iff] at hc; obtain ⟨_, _, _, _, hc⟩ := hc; cases hc
        | _ => simp [conc] at hc
      | _ => rfl
    rw [h1, h2]
    exact concs_cons_mk hc rfl
noncomputable def rdN (ob : AO) : Nat → Nat → Option (List AV)
  | _, 0 => some []
  | o, n + 1 => match rdO ob o, rdN ob (o + 1) n with
    | some v, some vs => some (v :: vs)
    | _, _ => none
noncomputable def wr1 (ob : AO) (o : Nat) (v : AV) : Option AO :=
  match ob with
  | .cells n t e d l => bif Nat.blt o n && (Tr.inB o && v.one) then some (.cells n (Tr.put (some v) t o) e d l) else none
  | .map _ _ => none
  | .iter _ _ _ _ => none
noncomputable def wrN (ob : AO) : Nat → List AV → Option AO
  | _, [] => some ob
  | o, v :: vs => match wr1 ob o v with
    | some ob' => wrN ob' (o + 1) vs
    | none => none

section
variable {P : Program} {E : Env} {σ : St} {w : World}
theorem rd_cell (h : Rel P E σ w) {b : Nat} {ob : AO} {r : Nat × Nat} (hb : σ.heap.get b = some ob) (hr : E b = some r) {o : Nat} {v : AV} (hv : rdO ob o = some v) :
    ∃ c, w.cell? ⟨r.1, o, none⟩ = some c ∧ conc E v = some c := by
  obtain ⟨x, h1, h2⟩ := h.obj b ob hb r hr
  cases ob with
  | map es k => cases hv
  | iter m s se st => cases hv
  | cells n t e d l =>
    obtain ⟨cs, rfl, -, -, h3⟩ := h2
    obtain ⟨c, h4, h5⟩ := h3 o v hv
    exact ⟨c, by rw [cell_of_row w _ _ _ _ _ h1]; exact h4, h5⟩
theorem rd_cells (h : Rel P E σ w) {b : Nat} {ob : AO} {r : Nat × Nat} (hb : σ.heap.get b = some ob) (hr : E b = some r) : ∀ (n o : Nat) (vs : List AV), rdN ob o n = some vs →
    ∃ cs, cs.length = n ∧ w.rangeAt r.1 o cs ∧ concs E vs = some cs
  | 0, o, vs, hv => by
    simp only [rdN, Option.some.injEq] at hv
    subst hv
    exact ⟨[], rfl, fun j v hj => by simp at hj, rfl⟩
  | n + 1, o, vs, hv => by
    unfold rdN at hv
    split at hv
    · next v us h1 h2 =>
      injection hv with hv
      subst hv
      obtain ⟨c, h3, h4⟩ := rd_cell h hb hr h1
      obtain ⟨cs, h5, h6, h7⟩ := rd_cells h hb hr n (o + 1) us h2
      refine ⟨c :: cs, by simp [h5], fun j u hj => ?_, concs_cons_mk h4 h7⟩
      cases j with
      | zero => simp only [List.getElem?_cons_zero, Option.some.injEq] at hj; subst hj; exact h3
      | succ j => simp only [List.getElem?_cons_succ] at hj; have := h6 j u hj; rwa [show o + 1 + j = o + (j + 1) by omega] at this
    · cases hv
theorem wr1_cells {ob ob' : AO} {o : Nat} {v : AV} (h : wr1 ob o v = some ob') : ∃ n t e d l, ob = .cells n t e d l ∧ ob' = .cells n (Tr.put (some v) t o) e d l ∧ o < n ∧ o < 2 ^ 26 ∧ v.one = true := by
  unfold wr1 at h
  split at h
  · next n t e d l =>
    cases hc : (Nat.blt o n && (Tr.inB o && v.one)) with
    | false => rw [hc] at h; cases h
    | true =>
      rw [hc] at h
      simp only [cond_true, Option.some.injEq] at h
      rw [Bool.and_eq_true, Bool.and_eq_true] at hc
      exact ⟨n, t, e, d, l, rfl, h.symm, blt_lt hc.1, Tr.inB_lt hc.2.1, hc.2.2⟩
  · cases h
  · cases h
theorem step_wr1 (h : Rel P E σ w) {b : Nat} {ob ob' : AO} {r : Nat × Nat} (hin : b < 2 ^ 26) (hb : σ.heap.get b = some ob) (hr : E b = some r) {o : Nat} {v : AV} {c : Value} (hv : wr1 ob o v = some ob') (hc : conc E v = some c) :
    Step P E σ w E (σ.chg b ob') (w.setCell ⟨r.1, o, none⟩ c) ∧ (w.cell? ⟨r.1, o, none⟩).isSome = true ∧ w.frozen? ⟨r.1, o, none⟩ = false := by
  obtain ⟨n, t, e, d, l, rfl, rfl, hon, ho2, h1⟩ := wr1_cells hv
  obtain ⟨x, h2, h3⟩ := h.obj b _ hb r hr
  obtain ⟨cs, rfl, hs, hl, h4⟩ := h3
  have hlt : o < cs.size := by omega
  have hob : (w.setCell ⟨r.1, o, none⟩ c).heap[r.1]? = some (.cells (cs.setIfInBounds o c) e (0, 0)) := by simp [World.setCell, Array.getElem?_modify, h2]
  refine ⟨Step.change h hin hb hr hob ⟨_, rfl, by simpa using hs, hl, fun i u hi => ?_⟩ rfl rfl rfl (by simp [World.setCell]) (fun k hk => Go.RowKit.Below.heap_setCell w ⟨r.1, o, none⟩ c k hk), ?_, ?_⟩
  · rw [rdO_put ho2 hon] at hi
    by_cases hio : i = o
    · subst hio
      rw [if_pos rfl] at hi
      injection hi with hi
      subst hi
      exact ⟨c, by simp [hlt], hc⟩
    · rw [if_neg hio] at hi
      obtain ⟨c', h5, h6⟩ := h4 i u hi
      exact ⟨c', by rw [Array.getElem?_setIfInBounds_ne (fun e => hio e.symm)]; exact h5, h6⟩
  · rw [cell_of_row w _ _ _ _ _ h2]; simp [hlt]
  · simp [World.frozen?, h2]
theorem chg_chg (σ : St) (b : Nat) (o o' : AO) (hin : b < 2 ^ 26) : ∀ k, ((σ.chg b o).chg b o').heap.get k = (σ.chg b o').heap.get k := by
  intro k
  unfold St.chg
  simp only [Tr.get_put _ _ _ _ hin]
  by_cases h : k = b <;> simp [h]
theorem Rel.same {σ' : St} (h : Rel P E σ w) (hg : ∀ k, σ'.heap.get k = σ.heap.get k) (hn : σ'.next = σ.next) : Rel P E σ' w :=
  ⟨fun b o hb => h.obj b o (by rw [← hg]; exact hb), fun b b' o o' r r' hb hb' => h.inj b b' o o' r r' (by rw [← hg]; exact hb) (by rw [← hg]; exact hb'), fun b r hr => by rw [hn]; exact h.rng b r hr, fun b o hb => by rw [hn]; exact h.live b o (by rw [← hg]; exact hb)⟩
theorem Step.same {E' : Env} {σ' σ'' : St} {w' : World} (h : Step P E σ w E' σ' w') (hg : ∀ k, σ''.heap.get k = σ'.heap.get k) (hn : σ''.next = σ'.next) : Step P E σ w E' σ'' w' :=
  ⟨h.le, h.rel.same hg hn, h.os, h.tape, h.output, h.size, h.frame, fun c hc => h.own c (by obtain ⟨b, o, r, hb, hr, e⟩ := hc; exact ⟨b, o, r, by rw [← hg]; exact hb, hr, e⟩), by rw [hn]; exact h.next, h.fresh⟩
theorem step_wrN : ∀ (vs : List AV) {σ : St} {w : World} (_ : Rel P E σ w) {b : Nat} {ob ob' : AO} {r : Nat × Nat} (_ : b < 2 ^ 26) (_ : σ.heap.get b = some ob) (_ : E b = some r) {o : Nat} {cs : List Value} (_ : wrN ob o vs = some ob') (_ : concs E vs = some cs),
    Step P E σ w E (σ.chg b ob') (w.setCells r.1 o cs) ∧ w.there r.1 o cs.length ∧ cs.all (·.oneCell') = true
  | [], σ, w, h, b, ob, ob', r, hin, hb, hr, o, cs, hv, hc => by
    obtain rfl := concs_nil hc
    simp only [wrN, Option.some.injEq] at hv
    subst hv
    refine ⟨(Step.refl h).same (fun k => ?_) rfl, fun j hj => by simp at hj, rfl⟩
    unfold St.chg
    simp only [Tr.get_put _ _ _ _ hin]
    by_cases hk : k = b
    · subst hk; rw [if_pos rfl, hb]
    · rw [if_neg hk]
  | v :: vs, σ, w, h, b, ob, ob', r, hin, hb, hr, o, cs, hv, hc => by
    obtain ⟨c, ds, rfl, h1, h2⟩ := concs_cons hc
    unfold wrN at hv
    split at hv
    · next ob1 hw1 =>
      obtain ⟨s1, s2, s3⟩ := step_wr1 h hin hb hr hw1 h1
      have hb1 : (σ.chg b ob1).heap.get b = some ob1 := by unfold St.chg; simp [Tr.get_put _ _ _ _ hin]
      obtain ⟨t1, t2, t3⟩ := step_wrN vs s1.rel hin hb1 hr hv h2
      refine ⟨(s1.trans t1).same (fun k => (chg_chg σ b ob1 ob' hin k).symm) rfl, fun j hj => ?_, ?_⟩
      · cases j with
        | zero => exact ⟨s2, s3⟩
        | succ j =>
          have := t2 j (by simp at hj; omega)
          rw [show o + 1 + j = o + (j + 1) by omega] at this
          refine ⟨?_, ?_⟩
          · have h5 := this.1
            rwa [World.cell?_setCell_other _ _ _ _ (fun e => by simp at e)] at h5
          · rw [World.frozen?_setCell] at this
            exact this.2
      · simp only [List.all_cons, Bool.and_eq_true]
        exact ⟨one_conc (wr1_cells hw1).choose_spec.choose_spec.choose_spec.choose_spec.choose_spec.2.2.2.2 h1, t3⟩
    · cases hv
end
end Go.Proofs.YtopbojifllnckaaGreatDoor
namespace Go.Proofs.YtopbojifllnckaaGreatDoor

/-- 'wrap', by a short way where it can. -/
noncomputable def wr (k : IntKind) (n : Int) : Int :=
  match k, n with
  | .i64, .ofNat m => bif Nat.blt m 9223372036854775808 then n else IntKind.i64.wrap n
  | .u8, .ofNat m => bif Nat.blt m 256 then n else IntKind.u8.wrap n
  | k, n => k.wrap n
theorem wr_eq (k : IntKind) (n : Int) : wr k n = k.wrap n := by
  unfold wr
  split
  · next m =>
    cases h : Nat.blt m 9223372036854775808 with
    | false => rfl
    | true =>
      have := blt_lt h
      rw [IntKind.wrap_i64]
      show Int.ofNat m = _
      have e : (Int.ofNat m : Int) = (m : Int) := rfl
      rw [e]
      omega
  · next m =>
    cases h : Nat.blt m 256 with
    | false => rfl
    | true =>
      have := blt_lt h
      rw [IntKind.wrap_u8]
      show Int.ofNat m = _
      have e : (Int.ofNat m : Int) = (m : Int) := rfl
      rw [e]
      omega
  · rfl

noncomputable def intBin (op : BinOp) (k : IntKind) (a b : Int) : Option AV :=
  match op with
  | .add => some (.int k (wr k (a + b)))
  | .sub => some (.int k (wr k (a - b)))
  | .mul => some (.int k (wr k (a * b)))
  | .quo => bif b == 0 then none else some (.int k (wr k (a.tdiv b)))
  | .rem => bif b == 0 then none else some (.int k (a.tmod b))
  | .and => some (.int k (wr k (BitVec.ofInt k.bits a &&& BitVec.ofInt k.bits b).toNat))
  | .or => some (.int k (wr k (BitVec.ofInt k.bits a ||| BitVec.ofInt k.bits b).toNat))
  | .xor => some (.int k (wr k (BitVec.ofInt k.bits a ^^^ BitVec.ofInt k.bits b).toNat))
  | .andNot => some (.int k (wr k (BitVec.ofInt k.bits a &&& ~~~BitVec.ofInt k.bits b).toNat))
  | .eql => some (.bool (a == b))
  | .neq => some (.bool (a != b))
  | .lss => some (.bool (decide (a < b)))
  | .leq => some (.bool (decide (a ≤ b)))
  | .gtr => some (.bool (decide (a > b)))
  | .geq => some (.bool (decide (a ≥ b)))
  | _ => none
noncomputable def shBin (op : BinOp) (k : IntKind) (a b : Int) : Option AV :=
  bif decide (b < 0) then none else
  match op with
  | .shl => some (.int k (wr k (a * 2 ^ (min b.toNat k.bits))))
  | .shr => some (.int k (a.fdiv (2 ^ (min b.toNat k.bits))))
  | _ => none
noncomputable def eqL : List UInt8 → List UInt8 → Bool
  | [], [] => true
  | a :: x, b :: y => bif Nat.beq a.toNat b.toNat then eqL x y else false
  | _, _ => false
theorem eqL_eq : ∀ (x y : List UInt8), eqL x y = (x == y)
  | [], [] => rfl
  | [], _ :: _ => rfl
  | _ :: _, [] => rfl
  | a :: x, b :: y => by
    have ih := eqL_eq x y
    have e1 : (a :: x == b :: y) = (a == b && x == y) := rfl
    have e2 : eqL (a :: x) (b :: y) = bif Nat.beq a.toNat b.toNat then eqL x y else false := rfl
    rw [e1, ← ih, e2]
    cases h : Nat.beq a.toNat b.toNat with
    | true =>
      have : a = b := UInt8.toNat_inj.1 (beq_eq h)
      subst this
      simp
    | false =>
      have : a ≠ b := fun e => by subst e; simp at h
      simp [this]
noncomputable def strBin (op : BinOp) (x y : List UInt8) : Option AV :=
  match op with
  | .add => bif Nat.blt (x.length + y.length) 1000000000 then some (.str (x ++ y)) else none
  | .eql => some (.bool (eqL x y))
  | .neq => some (.bool (!eqL x y))
  | .lss => some (.bool (Op.bytesLess x y))
  | .leq => some (.bool (Op.bytesLess x y || eqL x y))
  | .gtr => some (.bool (!(Op.bytesLess x y || eqL x y)))
  | .geq => some (.bool (!Op.bytesLess x y))
  | _ => none
def isConstB : Operand → Bool
  | .const _ => true
  | _ => false
section
variable (P : Program)
/-- Are two values that are no numbers and no strings the same? -/
noncomputable def eqV (t : TypeId) (cst : Bool) (x y : AV) : Option Bool :=
  match P.underlying t, x, y with
  | some .bool, .bool a, .bool b => some (a == b)
  | some (.pointer _), .ptr none, .ptr q => some q.isNone
  | some (.pointer _), .ptr (some _), .ptr none => some false
  | some (.slice _), .slc none _ _ _, .slc q _ _ _ => some q.isNone
  | some (.slice _), .slc (some _) _ _ _, .slc none _ _ _ => some false
  | some (.slice _), .send _ _ _ _, .slc none _ _ _ => some false
  | some (.slice _), .slc none _ _ _, .send _ _ _ _ => some false
  | some (.map _ _), .map none, .map q => some q.isNone
  | some (.map _ _), .map (some _), .map none => some false
  | some (.func _ _ _), .nilFunc, .nilFunc => some true
  | some (.func _ _ _), .nilFunc, .func _ _ _ => some false
  | some (.func _ _ _), .func _ _ _, .nilFunc => some false
  | some (.interface _), .nilIface, .iface _ _ => some false
  | some (.interface _), .iface _ _, .nilIface => some false
  | some (.interface _), .nilIface, .nilIface => bif cst then some true else none
  | some (.interface _), .iface tx _, .iface ty _ => bif Nat.beq tx ty then none else some false
  | _, _, _ => none
/-- One cell and another, of a field's type. -/
noncomputable def eq1 (t : TypeId) (x y : AV) : Option Bool :=
  match P.underlying t, x, y with
  | some (.int _), .int k a, .int k' b => bif decide (k = k') then some (a == b) else none
  | some .string, .str a, .str b => some (eqL a b)
  | some .bool, .bool a, .bool b => some (a == b)
  | _, _, _ => none
/-- Cells of one type, each with each. -/
noncomputable def eqCs (e : TypeId) : List AV → List AV → Option Bool
  | [], [] => some true
  | a :: x, b :: y => match eq1 P e a b with
    | some true => eqCs e x y
    | some false => some false
    | none => none
  | _, _ => none
/-- An array of elements of one cell. -/
noncomputable def arrF (t : TypeId) : Option (Nat × TypeId) := match P.underlying t with
  | some (.array n e) => match P.info? e, P.info? t with
    | some ie, some it => bif Nat.beq ie.size 1 then (bif Nat.beq it.size n then some (n, e) else none) else none
    | _, _ => none
  | _ => none
noncomputable def eqFs (xs ys : List AV) : List Field → Option Bool
  | [] => some true
  | f :: fs => bif f.name == "_" then none else match arrF P f.type with
    | some (n, e) => bif Nat.beq ((xs.drop f.offset).take n).length n then (match eqCs P e ((xs.drop f.offset).take n) ((ys.drop f.offset).take n) with
      | some true => eqFs xs ys fs
      | some false => some false
      | none => none) else none
    | none => match xs[f.offset]?, ys[f.offset]? with
      | some a, some b => match eq1 P f.type a b with
        | some true => eqFs xs ys fs
        | some false => some false
        | none => none
      | _, _ => none
noncomputable def aggEq (t : TypeId) (xs ys : List AV) : Option Bool :=
  match P.underlying t with
  | some (.struct fs) => bif P.stoodInHeld t || P.eqGuardType P.depth t then none else eqFs P xs ys fs.toList
  | _ => none
noncomputable def binA (op : BinOp) (t : TypeId) (cst : Bool) (x y : AV) : Option AV :=
  match x, y with
  | .int k a, .int k' b =>
    match op with
    | .shl => shBin .shl k a b
    | .shr => shBin .shr k a b
    | op => bif decide (k = k') then intBin op k a b else none
  | .str a, .str b => strBin op a b
  | .agg xs, .agg ys => match op with
    | .eql => (aggEq P t xs ys).map .bool
    | .neq => (aggEq P t xs ys).map fun b => .bool (!b)
    | _ => none
  | x, y => match op with
    | .eql => (eqV P t cst x y).map .bool
    | .neq => (eqV P t cst x y).map fun b => .bool (!b)
    | _ => none
end

/-! ### what the model's binary operation gives -/
section
variable {P : Program} {w : World}
theorem run_int {op : BinOp} {k : IntKind} {a b : Int} {v : AV} (E : Env) (h : intBin op k a b = some v) (t : TypeId) : ∃ c, (binOp op t (.int k a) (.int k b)).run P w = .ok c w ∧ conc E v = some c := by
  unfold intBin at h
  split at h <;> first | (cases h; done) | (injection h with h; subst h; exact ⟨_, by simp [binOp, Op.intArith, Op.intBits, Op.intCmp]; rfl, by simp [conc, wr_eq]⟩) | skip
  · cases hb : (b == 0) with
    | true => rw [hb] at h; cases h
    | false =>
      rw [hb] at h
      simp only [cond_false, Option.some.injEq] at h
      subst h
      exact ⟨_, by simp [binOp, Op.intDiv, beq_eq_false_iff_ne.1 hb]; rfl, by simp [conc, wr_eq]⟩
  · cases hb : (b == 0) with
    | true => rw [hb] at h; cases h
    | false =>
      rw [hb] at h
      simp only [cond_false, Option.some.injEq] at h
      subst h
      exact ⟨_, by simp [binOp, Op.intDiv, beq_eq_false_iff_ne.1 hb]; rfl, by simp [conc]⟩
theorem run_sh {op : BinOp} {k k' : IntKind} {a b : Int} {v : AV} (E : Env) (hop : op = .shl ∨ op = .shr) (h : shBin op k a b = some v) (t : TypeId) : ∃ c, (binOp op t (.int k a) (.int k' b)).run P w = .ok c w ∧ conc E v = some c := by
  unfold shBin at h
  cases hb : decide (b < 0) with
  | true => rw [hb] at h; cases h
  | false =>
    rw [hb] at h
    have hb' : ¬ b < 0 := by simpa using hb
    rcases hop with rfl | rfl
    · simp only [cond_false, Option.some.injEq] at h
      subst h
      exact ⟨_, by simp [binOp, Op.shift, hb']; rfl, by simp [conc, wr_eq]⟩
    · simp only [cond_false, Option.some.injEq] at h
      subst h
      exact ⟨_, by simp [binOp, Op.shift, hb']; rfl, by simp [conc]⟩
theorem run_str {op : BinOp} {x y : List UInt8} {v : AV} (E : Env) (h : strBin op x y = some v) (t : TypeId) : ∃ c, (binOp op t (.string ⟨x.toArray⟩) (.string ⟨y.toArray⟩)).run P w = .ok c w ∧ conc E v = some c := by
  unfold strBin at h
  split at h
  · cases hb : Nat.blt (x.length + y.length) 1000000000 with
    | false => rw [hb] at h; cases h
    | true =>
      rw [hb] at h
      simp only [cond_true, Option.some.injEq] at h
      subst h
      have hlt := blt_lt hb
      have h1 : ¬ ((((⟨x.toArray⟩ : ByteArray).size + (⟨y.toArray⟩ : ByteArray).size : Nat) : Int) > IntKind.i64.max) := by
        have e1 : (⟨x.toArray⟩ : ByteArray).size = x.length := by simp [ByteArray.size]
        have e2 : (⟨y.toArray⟩ : ByteArray).size = y.length := by simp [ByteArray.size]
        rw [e1, e2]
        have : IntKind.i64.max = 9223372036854775807 := by rfl
        omega
      refine ⟨.string (⟨x.toArray⟩ ++ ⟨y.toArray⟩), ?_, ?_⟩
      · simp only [binOp, Op.stringOp]
        rw [if_neg h1]
        rfl
      · simp only [conc, Option.some.injEq, Value.string.injEq]
        apply ByteArray.ext
        simp
  all_goals first | (cases h; done) | (injection h with h; subst h; exact ⟨_, by simp [binOp, Op.stringOp]; rfl, by simp [conc, eqL_eq]⟩)
end
end Go.Proofs.YtopbojifllnckaaGreatDoor
