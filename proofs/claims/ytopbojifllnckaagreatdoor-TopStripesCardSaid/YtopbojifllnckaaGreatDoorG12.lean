/- A region that draws its order: the evaluator, and what is known along it. -/
import Derived.Test.YtopbojifllnckaaGreatDoorG11
namespace Go.Proofs.YtopbojifllnckaaGreatDoor
/-- What may have to be looked at again. -/
inductive Pe where
  | rd (i : Nat) (tm : Tm) (o : Oper) (v : AV)
  | mk (i : Nat) (id : Nat) (ob : AO)
def Pe.i : Pe → Nat
  | .rd i _ _ _ => i
  | .mk i _ _ => i
structure Ste where
  i : Nat
  o : Oper
  an : Nat
  kd : Nat
  rk : Nat
def kdOf (s : Sta) (i : Nat) : Nat := bif s.effL.contains i then 2 else bif s.mkL.contains i then 1 else 0
def stepsOf (s : Sta) : List Nat → List Ste
  | [] => []
  | i :: r => match s.ops[i]? with
    | some o => ⟨i, o, s.anc i, kdOf s i, s.mkL.idxOf i⟩ :: stepsOf s r
    | none => []
section
variable (P : Program)
noncomputable def Pe.check (R : St) : Pe → Bool
  | .rd _ tm o v => match opRd P tm R o with
    | some u => vEq u v
    | none => false
  | .mk _ id ob => match R.heap.get id with
    | some u => aoEq u ob
    | none => false
noncomputable def stay (an : Nat) (R : St) : List Pe → Option (List Pe)
  | [] => some []
  | x :: r => bif an.testBit x.i then stay an R r else (bif x.check P R then (match stay an R r with
    | some r' => some (x :: r')
    | none => none) else none)
theorem stay_ok {an : Nat} {R : St} : ∀ {l l' : List Pe}, stay P an R l = some l' → ∀ x ∈ l, an.testBit x.i = true ∨ (x ∈ l' ∧ x.check P R = true)
  | [], _, _, x, hx => by cases hx
  | y :: r, l', h, x, hx => by
    unfold stay at h
    cases hb : an.testBit y.i with
    | true =>
      rw [hb] at h
      rcases List.mem_cons.1 hx with rfl | hx
      · exact Or.inl hb
      · exact stay_ok h x hx
    | false =>
      rw [hb] at h
      simp only [cond_false] at h
      cases hc : y.check P R with
      | false => rw [hc] at h; cases h
      | true =>
        rw [hc] at h
        simp only [cond_true] at h
        split at h <;> first | (cases h; done) | skip
        next r' hr =>
        injection h with h
        subst h
        rcases List.mem_cons.1 hx with rfl | hx
        · exact Or.inr ⟨List.mem_cons_self, hc⟩
        · rcases stay_ok hr x hx with h1 | ⟨h1, h2⟩
          · exact Or.inl h1
          · exact Or.inr ⟨List.mem_cons_of_mem _ h1, h2⟩
variable (call : CallF) (nt : Nat) (ops : Array Oper) (base : Nat)
noncomputable def dRun : List Ste → List Pe → Tm → St → Option (Tm × St)
  | [], _, tm, σ => some (tm, σ)
  | s :: rest, pe, tm, σ => match wantA ops tm s.o with
    | none => none
    | some false => match putA nt s.o.dst (.tup []) tm with
      | none => none
      | some tm' => bif Nat.beq s.kd 2 then (match stay P s.an σ pe with
        | none => none
        | some pe' => dRun rest pe' tm' σ) else dRun rest pe tm' σ
    | some true => bif Nat.beq s.kd 2 then (match opFx P call tm σ s.o with
        | none => none
        | some (v, R) => match putA nt s.o.dst v tm with
          | none => none
          | some tm' => bif Nat.ble σ.next R.next then (match stay P s.an R pe with
            | none => none
            | some pe' => dRun rest pe' tm' R) else none)
      else bif Nat.beq s.kd 1 then (match opA P tm (base + s.rk) s.o with
        | none => none
        | some (v, ob) => match σ.heap.get (base + s.rk) with
          | some _ => none
          | none => match putA nt s.o.dst v tm with
            | none => none
            | some tm' => dRun rest (.mk s.i (base + s.rk) ob :: pe) tm' ⟨Tr.put (some ob) σ.heap (base + s.rk), σ.next⟩)
      else (match opP P tm s.o with
        | some v => match putA nt s.o.dst v tm with
          | none => none
          | some tm' => dRun rest pe tm' σ
        | none => match opR P tm σ s.o with
          | some v => match putA nt s.o.dst v tm with
            | none => none
            | some tm' => dRun rest (.rd s.i tm s.o v :: pe) tm' σ
          | none => none)
end
def updF {α : Type} (f : Nat → α) (i : Nat) (x : α) : Nat → α := fun j => if j = i then x else f j
theorem updF_self {α : Type} (f : Nat → α) (i : Nat) (x : α) : updF f i x i = x := by unfold updF; rw [if_pos rfl]
theorem updF_ne {α : Type} {f : Nat → α} {i j : Nat} {x : α} (h : j ≠ i) : updF f i x j = f j := by unfold updF; rw [if_neg h]
section
variable {P : Program} {call : CallF} {nt : Nat}
theorem foldT_congr {p : Plan} {q q' : Vals} {D : Nat → Bool} : ∀ (l : List Nat) (tm : Tm), (∀ j ∈ l, q'.V j = q.V j) → l.foldl (stepT p q' D) tm = l.foldl (stepT p q D) tm
  | [], _, _ => rfl
  | j :: l, tm, h => by
    simp only [List.foldl_cons]
    have : stepT p q' D tm j = stepT p q D tm j := by unfold stepT; rw [h j List.mem_cons_self]
    rw [this]
    exact foldT_congr l _ fun k hk => h k (List.mem_cons_of_mem _ hk)
/-- What is known along the evaluator's order. -/
structure Inv (P : Program) (call : CallF) (nt : Nat) (s : Sta) (tm0 : Tm) (σ0 : St) (l1 : List Nat) (last : Option Nat) (k : Nat) (pe : List Pe) (q : Vals) (tm : Tm) (σ : St) : Prop where
  tms : tm = l1.foldl (stepT s.plan q fun _ => true) tm0
  T : ∀ k1 i k2, l1 = k1 ++ i :: k2 → q.T i = k1.foldl (stepT s.plan q fun _ => true) tm0
  want : ∀ i ∈ l1, ∀ o, s.ops[i]? = some o → wantA s.ops (q.T i) o = some (q.wn i)
  unw : ∀ i, q.wn i = false → q.V i = .tup []
  out : ∀ i, i ∉ l1 → q.wn i = false
  cnt : ∀ i, s.plan.eff i = true → (i ∈ l1 ↔ s.plan.num i < k)
  km : k ≤ s.plan.m
  last : (last = none ∧ k = 0) ∨ (∃ e, last = some e ∧ s.plan.eff e = true ∧ s.plan.num e + 1 = k)
  cur : q.S k = σ
  room : ∀ k', k' ≤ k → σ0.next + s.mkL.length ≤ (q.S k').next
  ids : ∀ i, q.id i = σ0.next + s.mkL.idxOf i
  rd : ∀ i ∈ l1, ∀ o, s.ops[i]? = some o → s.plan.eff i = false → s.plan.al i = false → q.wn i = true → ∀ k', k' ≤ k → inK s.plan i k' → ∃ σ', (∀ b ob, σ'.heap.get b = some ob → (q.S k').heap.get b = some ob) ∧ (q.S k').next ≤ σ'.next ∧ opRd P (q.T i) σ' o = some (q.V i)
  made : ∀ i ∈ l1, ∀ o, s.ops[i]? = some o → s.plan.al i = true → q.wn i = true → opA P (q.T i) (q.id i) o = some (q.V i, q.ob i) ∧ ∀ k', k' ≤ k → inK s.plan i k' → (q.S k').heap.get (q.id i) = some (q.ob i)
  pend : ∀ i ∈ l1, ∀ o, s.ops[i]? = some o → s.plan.eff i = false → q.wn i = true → (s.plan.al i = false ∧ opP P (q.T i) o = some (q.V i)) ∨ (s.plan.al i = false ∧ Pe.rd i (q.T i) o (q.V i) ∈ pe) ∨ (s.plan.al i = true ∧ Pe.mk i (q.id i) (q.ob i) ∈ pe) ∨ (∃ e, s.plan.eff e = true ∧ s.plan.num e < k ∧ (s.anc e).testBit i = true)
  fx : ∀ i ∈ l1, ∀ o, s.ops[i]? = some o → s.plan.eff i = true → q.wn i = true → ∃ R, opFx P call (q.T i) (q.S (s.plan.num i)) o = some (q.V i, R) ∧ Ext s.plan q i R
  fx0 : ∀ i ∈ l1, s.plan.eff i = true → q.wn i = false → Ext s.plan q i (q.S (s.plan.num i))
  init : σ0.next ≤ (q.S 0).next ∧ ∀ b o, (q.S 0).heap.get b = some o → σ0.heap.get b = some o ∨ (b < (q.S 0).next ∧ ∃ j, j < s.ops.size ∧ s.plan.al j = true ∧ q.wn j = true ∧ q.id j = b)
  dsts : ∀ i ∈ l1, ∀ o d, s.ops[i]? = some o → o.dst = some d → d < nt
variable {s : Sta} {tm0 : Tm} {σ0 : St} {l1 : List Nat} {last : Option Nat} {k : Nat} {pe : List Pe} {q : Vals} {tm : Tm} {σ : St}
theorem id_lt (h : Inv P call nt s tm0 σ0 l1 last k pe q tm σ) {j k' : Nat} (hj : s.plan.al j = true) (hk : k' ≤ k) : q.id j < (q.S k').next := by
  have h1 := h.room k' hk
  have h2 := List.idxOf_lt_length_of_mem (mem_of.1 (show s.mkL.contains j = true from hj))
  rw [h.ids]
  omega
theorem split_last {l1 k1 k2 : List Nat} {i j : Nat} (h : l1 ++ [i] = k1 ++ j :: k2) : (k1 = l1 ∧ j = i) ∨ ∃ k3, l1 = k1 ++ j :: k3 := by
  rw [List.append_eq_append_iff] at h
  rcases h with ⟨as, h1, h2⟩ | ⟨bs, h1, h2⟩
  · cases as with
    | nil =>
      simp only [List.nil_append, List.cons.injEq] at h2
      exact Or.inl ⟨by simpa using h1, h2.1.symm⟩
    | cons a as => simp at h2
  · cases bs with
    | nil =>
      simp only [List.nil_append, List.cons.injEq] at h2
      exact Or.inl ⟨by simpa using h1.symm, h2.1⟩
    | cons b bs =>
      simp only [List.cons_append, List.cons.injEq] at h2
      exact Or.inr ⟨bs, by rw [h1, h2.1]⟩
theorem last_is (ok : PlanOK s.plan) (h : Inv P call nt s tm0 σ0 l1 last k pe q tm σ) {e : Nat} (he : s.plan.eff e = true) (hn : s.plan.num e + 1 = k) : last = some e := by
  rcases h.last with ⟨-, h1⟩ | ⟨e', h1, h2, h3⟩
  · omega
  · rw [h1, ok.effinj e' e h2 he (by omega)]
/-- An operation that is no effect. -/
theorem Inv.plain (ok : PlanOK s.plan) (h : Inv P call nt s tm0 σ0 l1 last k pe q tm σ) {i : Nat} {o : Oper} (hoi : s.ops[i]? = some o) (hi : i ∉ l1) (he : s.plan.eff i = false) (hlast : ∀ e, last = some e → (s.anc i).testBit e = true)
    {v : AV} {b : Bool} {ob : AO} {σ' : St} {pe' : List Pe} (hw : wantA s.ops tm o = some b) (hv : b = false → v = .tup []) (hdst : ∀ d, o.dst = some d → d < nt)
    (hsub : ∀ c x, σ.heap.get c = some x → σ'.heap.get c = some x) (hnx : σ'.next = σ.next) (hnew : ∀ c x, σ'.heap.get c = some x → σ.heap.get c = some x ∨ (s.plan.al i = true ∧ b = true ∧ c = q.id i)) (hpe : ∀ x ∈ pe, x ∈ pe')
    (hrd : s.plan.al i = false → b = true → (opRd P tm σ o = some v ∧ (opP P tm o = some v ∨ Pe.rd i tm o v ∈ pe')))
    (hmk : s.plan.al i = true → b = true → (opA P tm (q.id i) o = some (v, ob) ∧ σ'.heap.get (q.id i) = some ob ∧ Pe.mk i (q.id i) ob ∈ pe')) :
    Inv P call nt s tm0 σ0 (l1 ++ [i]) last k pe' ⟨updF q.T i tm, updF q.V i v, updF q.wn i b, q.id, updF q.ob i ob, updF q.S k σ'⟩ (putD o.dst v tm) σ' := by
  have hlt : i < s.ops.size := (Array.getElem?_eq_some_iff.1 hoi).1
  have hne : ∀ j ∈ l1, j ≠ i := fun j hj e => hi (e ▸ hj)
  have hfold : ∀ l : List Nat, (∀ j ∈ l, j ∈ l1) → l.foldl (stepT s.plan ⟨updF q.T i tm, updF q.V i v, updF q.wn i b, q.id, updF q.ob i ob, updF q.S k σ'⟩ fun _ => true) tm0 = l.foldl (stepT s.plan q fun _ => true) tm0 := fun l hl => foldT_congr l tm0 fun j hj => updF_ne (hne j (hl j hj))
  have hold : ∀ j ∈ l1 ++ [i], j = i ∨ (j ∈ l1 ∧ j ≠ i) := fun j hj => by
    rcases List.mem_append.1 hj with h1 | h1
    · exact Or.inr ⟨h1, hne j h1⟩
    · exact Or.inl (List.mem_singleton.1 h1)
  have hwn : ∀ j, q.wn j = true → j ≠ i := fun j hj e => by
    have := h.out i hi
    rw [← e, hj] at this
    cases this
  have hS : ∀ k', (updF q.S k σ' k').next = (q.S k').next := fun k' => by
    by_cases hk : k' = k
    · subst hk; rw [updF_self, hnx, h.cur]
    · rw [updF_ne hk]
  have hSs : ∀ k' c x, (q.S k').heap.get c = some x → (updF q.S k σ' k').heap.get c = some x := fun k' c x hx => by
    by_cases hk : k' = k
    · subst hk; rw [updF_self]; rw [h.cur] at hx; exact hsub c x hx
    · rw [updF_ne hk]; exact hx
  have hSn : ∀ k' c x, (updF q.S k σ' k').heap.get c = some x → (q.S k').heap.get c = some x ∨ (k' = k ∧ s.plan.al i = true ∧ b = true ∧ c = q.id i) := fun k' c x hx => by
    by_cases hk : k' = k
    · subst hk
      rw [updF_self] at hx
      rcases hnew c x hx with h1 | h1
      · rw [h.cur]; exact Or.inl h1
      · exact Or.inr ⟨rfl, h1⟩
    · rw [updF_ne hk] at hx; exact Or.inl hx
  have hin : ∀ k', k' ≤ k → inK s.plan i k' → k' = k := fun k' hk' hin => by
    rcases h.last with ⟨-, h1⟩ | ⟨e, h1, h2, h3⟩
    · omega
    · have := hin.2.1 e h2 (hlast e h1)
      omega
  have hext : ∀ e R, s.plan.eff e = true → e ∈ l1 → Ext s.plan q e R → Ext s.plan ⟨updF q.T i tm, updF q.V i v, updF q.wn i b, q.id, updF q.ob i ob, updF q.S k σ'⟩ e R := fun e R hee hel hx => by
    have hlt2 := (h.cnt e hee).1 hel
    refine ⟨by show R.next ≤ (updF q.S k σ' _).next; rw [hS]; exact hx.next, fun c x hc => ?_, fun j hj hjw => ?_⟩
    · rcases hSn _ c x hc with h1 | ⟨h1, h2, h3, h4⟩
      · rcases hx.get c x h1 with h5 | ⟨h5, j, h6, h7, h8, h9, h10⟩
        · exact Or.inl h5
        · exact Or.inr ⟨by show c < (updF q.S k σ' _).next; rw [hS]; exact h5, j, h6, h7, by show updF q.wn i b j = true; rw [updF_ne (hwn j h8)]; exact h8, h9, h10⟩
      · refine Or.inr ⟨?_, i, hlt, h2, by show updF q.wn i b i = true; rw [updF_self]; exact h3, h4.symm, hlast e (last_is ok h hee h1)⟩
        show c < (updF q.S k σ' _).next
        rw [hS, h4]
        exact id_lt h h2 (by omega)
    · left
      show q.id j < (updF q.S k σ' _).next
      rw [hS]
      exact id_lt h hj (by omega)
  constructor
  · show putD o.dst v tm = (l1 ++ [i]).foldl _ tm0
    rw [List.foldl_append, hfold l1 (fun _ h => h), ← h.tms]
    have hd : dstOf s.plan i = o.dst := by unfold dstOf; rw [show s.plan.ops[i]? = some o from hoi]; rfl
    simp only [List.foldl_cons, List.foldl_nil, stepT, if_true, hd, updF_self]
  · intro k1 j k2 e
    rcases split_last e with ⟨rfl, rfl⟩ | ⟨k3, e⟩
    · rw [hfold k1 (fun _ h => h)]
      show updF q.T j tm j = _
      rw [updF_self]
      exact h.tms
    · rw [hfold k1 (fun x hx => by rw [e]; simp [hx])]
      show updF q.T i tm j = _
      rw [updF_ne (hne j (by rw [e]; simp))]
      exact h.T k1 j k3 e
  · intro j hj oj hoj
    rcases hold j hj with rfl | ⟨h1, h2⟩
    · rw [hoi] at hoj
      cases hoj
      show wantA s.ops (updF q.T j tm j) o = some (updF q.wn j b j)
      rw [updF_self, updF_self]
      exact hw
    · show wantA s.ops (updF q.T i tm j) oj = some (updF q.wn i b j)
      rw [updF_ne h2, updF_ne h2]
      exact h.want j h1 oj hoj
  · intro j hj
    have hj' : updF q.wn i b j = false := hj
    show updF q.V i v j = _
    by_cases e : j = i
    · subst e
      rw [updF_self] at hj' ⊢
      exact hv hj'
    · rw [updF_ne e] at hj' ⊢
      exact h.unw j hj'
  · intro j hj
    have e : j ≠ i := fun e => hj (by rw [e]; simp)
    show updF q.wn i b j = false
    rw [updF_ne e]
    exact h.out j fun hm => hj (by simp [hm])
  · intro j hj
    have e : j ≠ i := fun e => by rw [e, he] at hj; cases hj
    rw [← h.cnt j hj]
    simp [e]
  · exact h.km
  · exact h.last
  · exact updF_self _ _ _
  · intro k' hk'
    show _ ≤ (updF q.S k σ' k').next
    rw [hS]
    exact h.room k' hk'
  · exact h.ids
  · intro j hj oj hoj h1 h2 h3 k' hk' hik
    rcases hold j hj with rfl | ⟨h4, h5⟩
    · rw [hoi] at hoj
      cases hoj
      have h3' : updF q.wn j b j = true := h3
      rw [updF_self] at h3'
      obtain rfl := hin k' hk' hik
      refine ⟨σ, fun c x hc => ?_, ?_, ?_⟩
      · show (updF q.S k' σ' k').heap.get c = some x
        rw [updF_self]
        exact hsub c x hc
      · show (updF q.S k' σ' k').next ≤ σ.next
        rw [updF_self, hnx]
        exact Nat.le_refl _
      · show opRd P (updF q.T j tm j) σ o = some (updF q.V j v j)
        rw [updF_self, updF_self]
        exact (hrd h2 h3').1
    · have h3' : updF q.wn i b j = true := h3
      rw [updF_ne h5] at h3'
      obtain ⟨σ1, e1, e2, e3⟩ := h.rd j h4 oj hoj h1 h2 h3' k' hk' hik
      refine ⟨σ1, fun c x hc => hSs k' c x (e1 c x hc), ?_, ?_⟩
      · show (updF q.S k σ' k').next ≤ σ1.next
        rw [hS]; exact e2
      · show opRd P (updF q.T i tm j) σ1 oj = some (updF q.V i v j)
        rw [updF_ne h5, updF_ne h5]
        exact e3
  · intro j hj oj hoj h2 h3
    rcases hold j hj with rfl | ⟨h4, h5⟩
    · rw [hoi] at hoj
      cases hoj
      have h3' : updF q.wn j b j = true := h3
      rw [updF_self] at h3'
      obtain ⟨e1, e2, e3⟩ := hmk h2 h3'
      refine ⟨?_, fun k' hk' hik => ?_⟩
      · show opA P (updF q.T j tm j) (q.id j) o = some (updF q.V j v j, updF q.ob j ob j)
        rw [updF_self, updF_self, updF_self]
        exact e1
      · obtain rfl := hin k' hk' hik
        show (updF q.S k' σ' k').heap.get (q.id j) = some (updF q.ob j ob j)
        rw [updF_self, updF_self]
        exact e2
    · have h3' : updF q.wn i b j = true := h3
      rw [updF_ne h5] at h3'
      obtain ⟨e1, e2⟩ := h.made j h4 oj hoj h2 h3'
      refine ⟨?_, fun k' hk' hik => ?_⟩
      · show opA P (updF q.T i tm j) (q.id j) oj = some (updF q.V i v j, updF q.ob i ob j)
        rw [updF_ne h5, updF_ne h5, updF_ne h5]
        exact e1
      · show (updF q.S k σ' k').heap.get (q.id j) = some (updF q.ob i ob j)
        rw [updF_ne h5]
        exact hSs k' _ _ (e2 k' hk' hik)
  · intro j hj oj hoj h1 h3
    rcases hold j hj with rfl | ⟨h4, h5⟩
    · rw [hoi] at hoj
      cases hoj
      have h3' : updF q.wn j b j = true := h3
      rw [updF_self] at h3'
      show (_ ∧ opP P (updF q.T j tm j) o = some (updF q.V j v j)) ∨ (_ ∧ Pe.rd j (updF q.T j tm j) o (updF q.V j v j) ∈ pe') ∨ (_ ∧ Pe.mk j (q.id j) (updF q.ob j ob j) ∈ pe') ∨ _
      rw [updF_self, updF_self, updF_self]
      cases ha : s.plan.al j with
      | true => exact Or.inr (Or.inr (Or.inl ⟨rfl, (hmk ha h3').2.2⟩))
      | false =>
        rcases (hrd ha h3').2 with h6 | h6
        · exact Or.inl ⟨rfl, h6⟩
        · exact Or.inr (Or.inl ⟨rfl, h6⟩)
    · have h3' : updF q.wn i b j = true := h3
      rw [updF_ne h5] at h3'
      show (_ ∧ opP P (updF q.T i tm j) oj = some (updF q.V i v j)) ∨ (_ ∧ Pe.rd j (updF q.T i tm j) oj (updF q.V i v j) ∈ pe') ∨ (_ ∧ Pe.mk j (q.id j) (updF q.ob i ob j) ∈ pe') ∨ _
      rw [updF_ne h5, updF_ne h5, updF_ne h5]
      rcases h.pend j h4 oj hoj h1 h3' with h6 | ⟨h6, h7⟩ | ⟨h6, h7⟩ | h6
      · exact Or.inl h6
      · exact Or.inr (Or.inl ⟨h6, hpe _ h7⟩)
      · exact Or.inr (Or.inr (Or.inl ⟨h6, hpe _ h7⟩))
      · exact Or.inr (Or.inr (Or.inr h6))
  · intro j hj oj hoj h1 h3
    rcases hold j hj with rfl | ⟨h4, h5⟩
    · rw [he] at h1; cases h1
    · have h3' : updF q.wn i b j = true := h3
      rw [updF_ne h5] at h3'
      have hlt2 := (h.cnt j h1).1 h4
      obtain ⟨R, e1, e2⟩ := h.fx j h4 oj hoj h1 h3'
      refine ⟨R, ?_, hext j R h1 h4 e2⟩
      show opFx P call (updF q.T i tm j) (updF q.S k σ' _) oj = some (updF q.V i v j, R)
      rw [updF_ne h5, updF_ne h5, updF_ne (by omega)]
      exact e1
  · intro j hj h1 h3
    rcases hold j hj with rfl | ⟨h4, h5⟩
    · rw [he] at h1; cases h1
    · have h3' : updF q.wn i b j = false := h3
      rw [updF_ne h5] at h3'
      have hlt2 := (h.cnt j h1).1 h4
      have e2 := h.fx0 j h4 h1 h3'
      have := hext j _ h1 h4 e2
      show Ext _ _ j (updF q.S k σ' _)
      rw [updF_ne (by omega)]
      exact this
  · refine ⟨by show _ ≤ (updF q.S k σ' 0).next; rw [hS]; exact h.init.1, fun c x hc => ?_⟩
    show _ ∨ (c < (updF q.S k σ' 0).next ∧ _)
    rw [hS]
    rcases hSn 0 c x hc with h1 | ⟨h1, h2, h3, h4⟩
    · rcases h.init.2 c x h1 with h5 | ⟨h5, j, h6, h7, h8, h9⟩
      · exact Or.inl h5
      · exact Or.inr ⟨h5, j, h6, h7, by show updF q.wn i b j = true; rw [updF_ne (hwn j h8)]; exact h8, h9⟩
    · refine Or.inr ⟨?_, i, hlt, h2, by show updF q.wn i b i = true; rw [updF_self]; exact h3, h4.symm⟩
      rw [h4]
      exact id_lt h h2 (Nat.zero_le _)
  · intro j hj oj d hoj hd
    rcases hold j hj with rfl | ⟨h4, h5⟩
    · rw [hoi] at hoj
      cases hoj
      exact hdst d hd
    · exact h.dsts j h4 oj d hoj hd
end
end Go.Proofs.YtopbojifllnckaaGreatDoor
