/- The evaluator laid out for the kernel: regions, code, functions. Regions that draw their order: the plan from the text. -/
import Derived.Test.YtopbojifllnckaaGreatDoorG14
namespace Go.Proofs.YtopbojifllnckaaGreatDoor
section
variable (P : Program) (nt : Nat)
structure WC where
  get : Tm → Option Bool
noncomputable def wC (ops : Array Oper) (o : Oper) : WC := match o.guard with
  | none => ⟨fun _ => some true⟩
  | some (j, want) => match ops[j]? with
    | some oj => match oj.dst with
      | some d => ⟨fun tm => match (aC (.tmp d)).get tm with
        | some (.bool b) => some (b == want)
        | some (.tup _) => some false
        | _ => none⟩
      | none => ⟨fun _ => some false⟩
    | none => ⟨fun _ => some false⟩
theorem wC_eq (ops : Array Oper) (o : Oper) (tm : Tm) : (wC ops o).get tm = wantA ops tm o := by
  unfold wC wantA
  cases o.guard with
  | none => rfl
  | some g =>
    obtain ⟨j, want⟩ := g
    simp only
    cases ops[j]? with
    | none => rfl
    | some oj =>
      simp only
      cases oj.dst with
      | none => rfl
      | some d =>
        simp only [aC_eq]
        rfl
structure SC where
  run : CallF → Tm → St → Option (Tm × St)
/-- An operation without a guard. -/
noncomputable def stepN (o : Oper) (pc : PC) (nx : SC) : SC := match famO o.op with
  | 0 => ⟨fun call tm σ => Option.rec (motive := fun _ => Option (Tm × St)) none (fun v => nx.run call (pc.put v tm) σ) ((vP P o.op).get tm)⟩
  | 6 => ⟨fun call tm σ => Option.rec (motive := fun _ => Option (Tm × St)) none (fun v => nx.run call (pc.put v tm) σ) ((vR P o.op).get tm σ)⟩
  | _ => ⟨fun call tm σ => Option.rec (motive := fun _ => Option (Tm × St)) none (fun r => Prod.rec (motive := fun _ => Option (Tm × St)) (fun v σ' => nx.run call (pc.put v tm) σ') r) ((oC P o).run call tm σ)⟩
theorem stepN_eq (o : Oper) (pc : PC) (nx : SC) (call : CallF) (tm : Tm) (σ : St) : (stepN P o pc nx).run call tm σ = Option.rec (motive := fun _ => Option (Tm × St)) none (fun r => Prod.rec (motive := fun _ => Option (Tm × St)) (fun v σ' => nx.run call (pc.put v tm) σ') r) ((oC P o).run call tm σ) := by
  unfold stepN
  split
  · next h =>
    unfold oC
    rw [h]
    simp only
    cases (vP P o.op).get tm <;> rfl
  · next h =>
    unfold oC
    rw [h]
    simp only
    cases (vR P o.op).get tm σ <;> rfl
  · rfl
noncomputable def stepC (ops : Array Oper) (o : Oper) (nx : SC) : SC := match dC nt o.dst with
  | some pc => match o.guard with
    | none => stepN P o pc nx
    | some _ => ⟨fun call tm σ => match (wC ops o).get tm with
      | some true => Option.rec (motive := fun _ => Option (Tm × St)) none (fun r => Prod.rec (motive := fun _ => Option (Tm × St)) (fun v σ' => nx.run call (pc.put v tm) σ') r) ((oC P o).run call tm σ)
      | some false => nx.run call (pc.put (.tup []) tm) σ
      | none => none⟩
  | none => ⟨fun _ _ _ => none⟩
noncomputable def opsC (ops : Array Oper) (l : List Oper) : SC :=
  List.rec (motive := fun _ => SC) ⟨fun _ tm σ => some (tm, σ)⟩ (fun o _ ih => stepC P nt ops o ih) l
theorem evOps_cons (ops : Array Oper) (call : CallF) (o : Oper) (l : List Oper) (tm : Tm) (σ : St) : evOps P call nt ops (o :: l) tm σ = match wantA ops tm o with
    | some true => match stepV P call tm σ o with
      | some (v, σ') => match putA nt o.dst v tm with
        | some tm' => evOps P call nt ops l tm' σ'
        | none => none
      | none => none
    | some false => match putA nt o.dst (.tup []) tm with
      | some tm' => evOps P call nt ops l tm' σ
      | none => none
    | none => none := by
  unfold stepV
  rw [evOps]
  rfl
theorem opsC_eq (ops : Array Oper) (call : CallF) : ∀ (l : List Oper) (tm : Tm) (σ : St), (opsC P nt ops l).run call tm σ = evOps P call nt ops l tm σ
  | [], _, _ => rfl
  | o :: l, tm, σ => by
    have e : opsC P nt ops (o :: l) = stepC P nt ops o (opsC P nt ops l) := rfl
    rw [e]
    rw [evOps_cons]
    unfold stepC
    have e2 : ∀ (v : AV), putA nt o.dst v tm = (dC nt o.dst).map fun p => p.put v tm := fun v => dC_eq nt o.dst v tm
    simp only [e2, ← oC_eq]
    cases hd : dC nt o.dst with
    | none =>
      simp only [Option.map_none]
      cases wantA ops tm o with
      | none => rfl
      | some b =>
        cases b with
        | false => rfl
        | true => cases (oC P o).run call tm σ <;> rfl
    | some pc =>
      simp only [Option.map_some]
      cases hg : o.guard with
      | none =>
        have hw : wantA ops tm o = some true := by unfold wantA; rw [hg]
        rw [hw]
        simp only [stepN_eq]
        cases (oC P o).run call tm σ with
        | none => rfl
        | some r =>
          obtain ⟨v, σ'⟩ := r
          exact opsC_eq ops call l _ _
      | some g =>
        simp only [wC_eq]
        cases wantA ops tm o with
        | none => rfl
        | some b =>
          cases b with
          | false => exact opsC_eq ops call l _ _
          | true =>
            simp only
            cases (oC P o).run call tm σ with
            | none => rfl
            | some r =>
              obtain ⟨v, σ'⟩ := r
              exact opsC_eq ops call l _ _
/-! ### regions that draw their order -/
structure DC where
  run : CallF → Nat → List Pe → Tm → St → Option (Tm × St)
abbrev R2 := Option (Tm × St)
noncomputable def fxC (o : Oper) : OC := match famO o.op with
  | 3 => ⟨fun _ tm σ => opE P tm σ o⟩
  | 4 => callC o.op
  | _ => ⟨fun call tm σ => opFx P call tm σ o⟩
theorem fxC_ok {call : CallF} {tm : Tm} {σ : St} {o : Oper} {r : AV × St} (h : (fxC P o).run call tm σ = some r) : opFx P call tm σ o = some r := by
  unfold fxC at h
  split at h
  · next h3 =>
    obtain ⟨h1, -, -, -⟩ := fam3 h3 tm σ σ.next (P := P)
    unfold opFx
    rw [h1]
    exact h
  · next h4 =>
    have h5 := oC_eq P call tm σ o
    unfold oC at h5
    rw [h4] at h5
    simp only at h5
    rw [h5] at h
    obtain ⟨k1, k2, k3, k4⟩ := fam4 P h4 tm σ σ.next
    unfold stepV at h
    unfold opFx
    cases hc : callA tm o with
    | none => rw [hc] at h; simp only [opX, k1, k2, k3, k4] at h; cases h
    | some p => rw [hc] at h; exact h
  · exact h
noncomputable def dBody (s : Ste) (pc : PC) (nx : DC) : DC := match s.kd with
  | 2 => ⟨fun call base pe tm σ => Option.rec (motive := fun _ => R2) none (fun r => Prod.rec (motive := fun _ => R2) (fun v R => bif Nat.ble σ.next R.next then Option.rec (motive := fun _ => R2) none (fun pe' => nx.run call base pe' (pc.put v tm) R) (stay P s.an R pe) else none) r) ((fxC P s.o).run call tm σ)⟩
  | 1 => ⟨fun call base pe tm σ => Option.rec (motive := fun _ => R2) none (fun r => Prod.rec (motive := fun _ => R2) (fun v ob => Option.rec (motive := fun _ => R2) (nx.run call base (.mk s.i (base + s.rk) ob :: pe) (pc.put v tm) ⟨Tr.put (some ob) σ.heap (base + s.rk), σ.next⟩) (fun _ => none) (σ.heap.get (base + s.rk))) r) (opA P tm (base + s.rk) s.o)⟩
  | _ => match famO s.o.op with
    | 0 => ⟨fun call base pe tm σ => Option.rec (motive := fun _ => R2) none (fun v => nx.run call base pe (pc.put v tm) σ) ((vP P s.o.op).get tm)⟩
    | 6 => ⟨fun call base pe tm σ => Option.rec (motive := fun _ => R2) none (fun v => nx.run call base (.rd s.i tm s.o v :: pe) (pc.put v tm) σ) ((vR P s.o.op).get tm σ)⟩
    | _ => ⟨fun call base pe tm σ => Option.rec (motive := fun _ => R2) (Option.rec (motive := fun _ => R2) none (fun v => nx.run call base (.rd s.i tm s.o v :: pe) (pc.put v tm) σ) ((vR P s.o.op).get tm σ)) (fun v => nx.run call base pe (pc.put v tm) σ) ((vP P s.o.op).get tm)⟩
noncomputable def dSkip (s : Ste) (pc : PC) (nx : DC) : DC := match s.kd with
  | 2 => ⟨fun call base pe tm σ => Option.rec (motive := fun _ => R2) none (fun pe' => nx.run call base pe' (pc.put (.tup []) tm) σ) (stay P s.an σ pe)⟩
  | _ => ⟨fun call base pe tm σ => nx.run call base pe (pc.put (.tup []) tm) σ⟩
noncomputable def dStep (ops : Array Oper) (s : Ste) (nx : DC) : DC := match dC nt s.o.dst with
  | some pc => match s.o.guard with
    | none => dBody P s pc nx
    | some _ => ⟨fun call base pe tm σ => match (wC ops s.o).get tm with
      | some true => (dBody P s pc nx).run call base pe tm σ
      | some false => (dSkip P s pc nx).run call base pe tm σ
      | none => none⟩
  | none => ⟨fun _ _ _ _ _ => none⟩
noncomputable def dsC (ops : Array Oper) (l : List Ste) : DC :=
  List.rec (motive := fun _ => DC) ⟨fun _ _ _ tm σ => some (tm, σ)⟩ (fun s _ ih => dStep P nt ops s ih) l
theorem dsC_ok (ops : Array Oper) (call : CallF) (base : Nat) {r : Tm × St} : ∀ (l : List Ste) (pe : List Pe) (tm : Tm) (σ : St), (dsC P nt ops l).run call base pe tm σ = some r → dRun P call nt ops base l pe tm σ = some r
  | [], _, _, _, h => h
  | s :: l, pe, tm, σ, h => by
    have e : dsC P nt ops (s :: l) = dStep P nt ops s (dsC P nt ops l) := rfl
    rw [e] at h
    unfold dStep at h
    cases hd : dC nt s.o.dst with
    | none => rw [hd] at h; cases h
    | some pc =>
      rw [hd] at h
      simp only at h
      have hput : ∀ v, putA nt s.o.dst v tm = some (pc.put v tm) := fun v => by rw [dC_eq, hd]; rfl
      have body : wantA ops tm s.o = some true → (dBody P s pc (dsC P nt ops l)).run call base pe tm σ = some r → dRun P call nt ops base (s :: l) pe tm σ = some r := fun hw hb => by
        unfold dRun
        rw [hw]
        simp only [hput]
        unfold dBody at hb
        split at hb
        · next hk =>
          dsimp only at hb
          rw [hk, show Nat.beq 2 2 = true from rfl]
          simp only [cond_true]
          cases hx : (fxC P s.o).run call tm σ with
          | none => rw [hx] at hb; cases hb
          | some x =>
            obtain ⟨v, R⟩ := x
            rw [hx] at hb
            rw [fxC_ok P hx]
            simp only at hb ⊢
            cases hn : Nat.ble σ.next R.next with
            | false => rw [hn] at hb; cases hb
            | true =>
              rw [hn] at hb
              simp only [cond_true] at hb ⊢
              cases hs : stay P s.an R pe with
              | none => rw [hs] at hb; cases hb
              | some pe' =>
                rw [hs] at hb
                exact dsC_ok ops call base l _ _ _ hb
        · next hk =>
          dsimp only at hb
          rw [hk, show Nat.beq 1 2 = false from rfl, show Nat.beq 1 1 = true from rfl]
          simp only [cond_true, cond_false]
          cases hx : opA P tm (base + s.rk) s.o with
          | none => rw [hx] at hb; cases hb
          | some x =>
            obtain ⟨v, ob⟩ := x
            rw [hx] at hb
            simp only at hb ⊢
            cases hg : σ.heap.get (base + s.rk) with
            | some y => rw [hg] at hb; cases hb
            | none =>
              rw [hg] at hb
              exact dsC_ok ops call base l _ _ _ hb
        · next h2 h1 =>
          have k2 : Nat.beq s.kd 2 = false := by
            cases hb2 : Nat.beq s.kd 2 with
            | false => rfl
            | true => exact absurd (beq_eq hb2) h2
          have k1 : Nat.beq s.kd 1 = false := by
            cases hb1 : Nat.beq s.kd 1 with
            | false => rfl
            | true => exact absurd (beq_eq hb1) h1
          rw [k2, k1]
          simp only [cond_false]
          split at hb
          · next hf =>
            dsimp only at hb
            rw [vP_eq] at hb
            cases hp : opP P tm s.o with
            | none => rw [hp] at hb; cases hb
            | some v =>
              rw [hp] at hb
              exact dsC_ok ops call base l _ _ _ hb
          · next hf =>
            dsimp only at hb
            rw [(fam6 P hf tm σ 0).2.1]
            rw [vR_eq] at hb
            cases hr : opR P tm σ s.o with
            | none => rw [hr] at hb; cases hb
            | some v =>
              rw [hr] at hb
              exact dsC_ok ops call base l _ _ _ hb
          · dsimp only at hb
            rw [vP_eq, vR_eq] at hb
            cases hp : opP P tm s.o with
            | some v =>
              rw [hp] at hb
              exact dsC_ok ops call base l _ _ _ hb
            | none =>
              rw [hp] at hb
              simp only at hb ⊢
              cases hr : opR P tm σ s.o with
              | none => rw [hr] at hb; cases hb
              | some v =>
                rw [hr] at hb
                exact dsC_ok ops call base l _ _ _ hb
      cases hg : s.o.guard with
      | none =>
        rw [hg] at h
        exact body (by unfold wantA; rw [hg]) h
      | some g =>
        rw [hg] at h
        simp only [wC_eq] at h
        cases hw : wantA ops tm s.o with
        | none => rw [hw] at h; cases h
        | some b =>
          rw [hw] at h
          cases b with
          | true => exact body hw h
          | false =>
            simp only at h
            unfold dRun
            rw [hw]
            simp only [hput]
            unfold dSkip at h
            split at h
            · next hk =>
              dsimp only at h
              rw [hk, show Nat.beq 2 2 = true from rfl]
              simp only [cond_true]
              cases hs : stay P s.an σ pe with
              | none => rw [hs] at h; cases h
              | some pe' =>
                rw [hs] at h
                exact dsC_ok ops call base l _ _ _ h
            · next h2 =>
              have k2 : Nat.beq s.kd 2 = false := by
                cases hb2 : Nat.beq s.kd 2 with
                | false => rfl
                | true => exact absurd (beq_eq hb2) h2
              rw [k2]
              exact dsC_ok ops call base l _ _ _ h
noncomputable def drC (sta : Array Oper → Sta) (ops : Array Oper) : SC :=
  Bool.rec (motive := fun _ => SC) ⟨fun _ _ _ => none⟩ ⟨fun call tm σ => bif Tr.inB (σ.next + (sta ops).mkL.length) then (dsC P nt ops (stepsOf (sta ops) (sta ops).ord)).run call σ.next [] tm ⟨σ.heap, σ.next + (sta ops).mkL.length⟩ else none⟩ (sta ops).okB
theorem drC_ok {sta : Array Oper → Sta} {ops : Array Oper} {call : CallF} {tm : Tm} {σ : St} {r : Tm × St} (h : (drC P nt sta ops).run call tm σ = some r) : drawA P sta call nt ops tm σ = some r := by
  unfold drC at h
  unfold drawA
  cases hok : (sta ops).okB with
  | false => rw [hok] at h; cases h
  | true =>
    rw [hok] at h
    simp only [cond_true] at h ⊢
    cases hB : Tr.inB (σ.next + (sta ops).mkL.length) with
    | false => rw [hB] at h; cases h
    | true =>
      rw [hB] at h
      simp only [cond_true] at h ⊢
      exact dsC_ok P nt ops call σ.next _ _ _ _ h
end
/-! ### code -/
structure CC where
  run : CallF → Tm → St → CRes
noncomputable def thenC (r : CRes) (k : CF) : CRes := Option.rec (motive := fun _ => CRes) none (fun p => Prod.rec (motive := fun _ => CRes) (fun x q => AX.rec (motive := fun _ => CRes) (Prod.rec (motive := fun _ => CRes) (fun tm σ => k tm σ) q) (fun id => some (.exit id, q)) (some (.ret, q)) x) p) r
theorem thenC_eq (r : CRes) (k : CF) : thenC r k = match r with
    | some (.norm, tm', σ') => k tm' σ'
    | r => r := by
  cases r with
  | none => rfl
  | some p =>
    obtain ⟨x, tm, σ⟩ := p
    cases x <;> rfl
noncomputable def loopC (f : CallF → CF) (call : CallF) (n : Nat) : CF :=
  Nat.rec (motive := fun _ => CF) (fun _ _ => none) (fun _ ih tm σ => thenC (f call tm σ) ih) n
noncomputable def normO (r : Option (Tm × St)) : CRes := Option.rec (motive := fun _ => CRes) none (fun r => some (.norm, r)) r
noncomputable def blockC (id : Nat) (r : CRes) : CRes := Option.rec (motive := fun _ => CRes) none (fun p => Prod.rec (motive := fun _ => CRes) (fun x q => AX.rec (motive := fun _ => CRes) (some (.norm, q)) (fun id' => bif Nat.beq id' id then some (.norm, q) else some (.exit id', q)) (some (.ret, q)) x) p) r
theorem blockC_eq (id : Nat) (r : CRes) : blockC id r = match r with
    | some (.exit id', tm', σ') => bif Nat.beq id' id then some (.norm, tm', σ') else some (.exit id', tm', σ')
    | r => r := by
  cases r with
  | none => rfl
  | some p =>
    obtain ⟨x, tm, σ⟩ := p
    cases x <;> rfl
noncomputable def cC (P : Program) (nt lf : Nat) (sta : Array Oper → Sta) (c : Code) : CC :=
  Code.rec (motive := fun _ => CC) ⟨fun _ tm σ => some (.norm, tm, σ)⟩
    (fun _ ops d => Bool.rec (motive := fun _ => CC) ⟨fun call tm σ => normO ((opsC P nt ops ops.toList).run call tm σ)⟩ ⟨fun call tm σ => normO ((drC P nt sta ops).run call tm σ)⟩ d)
    (fun _ _ fa fb => ⟨fun call tm σ => thenC (fa.run call tm σ) (fb.run call)⟩)
    (fun c _ _ fa fb => ⟨fun call tm σ => match (aC c).get tm with
    | some (.bool true) => fa.run call tm σ
    | some (.bool false) => fb.run call tm σ
    | _ => none⟩)
    (fun id _ fa => ⟨fun call tm σ => blockC id (fa.run call tm σ)⟩)
    (fun _ fa => ⟨fun call tm σ => loopC fa.run call lf tm σ⟩)
    (fun _ _ _ _ _ _ => ⟨fun _ _ _ => none⟩)
    (fun id => ⟨fun _ tm σ => some (.exit id, tm, σ)⟩)
    (fun _ fa => fa)
    (fun _ => ⟨fun _ tm σ => some (.norm, tm, σ)⟩)
    (fun _ => ⟨fun _ _ _ => none⟩)
    ⟨fun _ tm σ => some (.ret, tm, σ)⟩
    (fun _ => ⟨fun _ _ _ => none⟩) c
theorem cC_ok {P : Program} {nt lf : Nat} {sta : Array Oper → Sta} {call : CallF} : ∀ (c : Code) {tm : Tm} {σ : St} {r : AX × Tm × St}, (cC P nt lf sta c).run call tm σ = some r → evC P call (drawA P sta call nt) nt lf c tm σ = some r
  | .skip, _, _, _, h => h
  | .label _, _, _, _, h => h
  | .exit _, _, _, _, h => h
  | .ret, _, _, _, h => h
  | .region _ ops false, tm, σ, r, h => by
    have h' : normO ((opsC P nt ops ops.toList).run call tm σ) = some r := h
    rw [opsC_eq] at h'
    simp only [evC]
    cases he : evOps P call nt ops ops.toList tm σ with
    | none => rw [he] at h'; cases h'
    | some x => rw [he] at h'; exact h'
  | .region _ ops true, tm, σ, r, h => by
    have h' : normO ((drC P nt sta ops).run call tm σ) = some r := h
    simp only [evC]
    cases he : (drC P nt sta ops).run call tm σ with
    | none => rw [he] at h'; cases h'
    | some x =>
      rw [he] at h'
      rw [drC_ok P nt he]
      exact h'
  | .seq a b, tm, σ, r, h => by
    have h' : thenC ((cC P nt lf sta a).run call tm σ) ((cC P nt lf sta b).run call) = some r := h
    rw [thenC_eq] at h'
    simp only [evC]
    cases he : (cC P nt lf sta a).run call tm σ with
    | none => rw [he] at h'; cases h'
    | some x =>
      obtain ⟨x, tm', σ'⟩ := x
      rw [he] at h'
      rw [cC_ok a he]
      cases x with
      | norm => exact cC_ok b h'
      | exit id => exact h'
      | ret => exact h'
  | .cond c a b, tm, σ, r, h => by
    have h' : (match (aC c).get tm with
      | some (.bool true) => (cC P nt lf sta a).run call tm σ
      | some (.bool false) => (cC P nt lf sta b).run call tm σ
      | _ => none) = some r := h
    rw [aC_eq] at h'
    simp only [evC]
    split at h'
    · next hc => rw [hc]; exact cC_ok a h'
    · next hc => rw [hc]; exact cC_ok b h'
    · cases h'
  | .block id a, tm, σ, r, h => by
    have h' : blockC id ((cC P nt lf sta a).run call tm σ) = some r := h
    rw [blockC_eq] at h'
    simp only [evC]
    cases he : (cC P nt lf sta a).run call tm σ with
    | none => rw [he] at h'; cases h'
    | some x =>
      obtain ⟨x, tm', σ'⟩ := x
      rw [he] at h'
      rw [cC_ok a he]
      cases x <;> exact h'
  | .loop a, tm, σ, r, h => by
    have h' : loopC (cC P nt lf sta a).run call lf tm σ = some r := h
    simp only [evC]
    have key : ∀ (n : Nat) (tm : Tm) (σ : St), loopC (cC P nt lf sta a).run call n tm σ = some r → loopN (evC P call (drawA P sta call nt) nt lf a) n tm σ = some r := by
      intro n
      induction n with
      | zero => intro tm σ h; cases h
      | succ n ih =>
        intro tm σ h
        have h2 : thenC ((cC P nt lf sta a).run call tm σ) (loopC (cC P nt lf sta a).run call n) = some r := h
        rw [thenC_eq] at h2
        rw [loopN_succ]
        cases he : (cC P nt lf sta a).run call tm σ with
        | none => rw [he] at h2; cases h2
        | some x =>
          obtain ⟨x, tm', σ'⟩ := x
          rw [he] at h2
          rw [cC_ok a he]
          cases x with
          | norm => exact ih _ _ h2
          | exit id => exact h2
          | ret => exact h2
    exact key lf tm σ h'
  | .scope a, tm, σ, r, h => by
    simp only [evC]
    exact cC_ok a h
  | .rangeFunc _ _ _ _, _, _, _, h => by cases h
  | .goto _, _, _, _, h => by cases h
  | .refuse _, _, _, _, h => by cases h
/-! ### functions -/
structure FC where
  run : CallF → List AV → St → Option (AV × St)
noncomputable def finC (P : Program) (rs : List ResultVar) (r : CRes) : Option (AV × St) := match r with
  | some (.norm, tm', σ') => match resL P tm' σ' rs with
    | some vs => some (resA vs, σ')
    | none => none
  | some (.ret, tm', σ') => match resL P tm' σ' rs with
    | some vs => some (resA vs, σ')
    | none => none
  | _ => none
noncomputable def fC (P : Program) (lf : Nat) (sta : Array Oper → Sta) (spec : Specials) (f : Nat) : FC := match spec f with
  | some g => ⟨g⟩
  | none => match P.funcs[f]? with
    | some fn => match fn.body with
      | some c => bif Nat.blt fn.ntmps 256 then ⟨fun call args σ => bif Nat.ble args.length fn.ntmps then finC P fn.results.toList ((cC P fn.ntmps lf sta c).run call (trT args 0 Tm.e) σ) else none⟩ else ⟨fun _ _ _ => none⟩
      | none => ⟨fun _ _ _ => none⟩
    | none => ⟨fun _ _ _ => none⟩
noncomputable def fF (P : Program) (lf : Nat) (sta : Array Oper → Sta) (spec : Specials) (n : Nat) : CallF :=
  Nat.rec (motive := fun _ => CallF) (fun _ _ _ => none) (fun _ ih f args σ => (fC P lf sta spec f).run ih args σ) n
theorem fC_ok {P : Program} {lf : Nat} {sta : Array Oper → Sta} {spec : Specials} {call : CallF} {f : Nat} {args : List AV} {σ : St} {r : AV × St} (h : (fC P lf sta spec f).run call args σ = some r) : stepF P (drawA P sta) spec lf call f args σ = some r := by
  unfold fC at h
  unfold stepF
  cases hs : spec f with
  | some g => rw [hs] at h; exact h
  | none =>
    rw [hs] at h
    simp only at h ⊢
    cases hf : P.funcs[f]? with
    | none => rw [hf] at h; cases h
    | some fn =>
      rw [hf] at h
      simp only at h ⊢
      cases hb : fn.body with
      | none => rw [hb] at h; cases h
      | some c =>
        rw [hb] at h
        simp only at h ⊢
        cases hn : Nat.blt fn.ntmps 256 with
        | false => rw [hn] at h; cases h
        | true =>
          rw [hn] at h
          simp only [cond_true] at h
          cases hl : Nat.ble args.length fn.ntmps with
          | false => rw [hl] at h; cases h
          | true =>
            rw [hl] at h
            simp only [cond_true] at h
            have hle := Nat.le_of_ble_eq_true hl
            have hlt := blt_lt hn
            have e1 : Nat.blt args.length 256 = true := by
              have e : (Nat.blt args.length 256 = true) = (args.length < 256) := Nat.blt_eq
              exact e.mpr (by omega)
            have e2 : args.length + (fn.ntmps - args.length) = fn.ntmps := by omega
            rw [e1, e2]
            simp only [cond_true]
            cases hc : (cC P fn.ntmps lf sta c).run call (trT args 0 Tm.e) σ with
            | none => rw [hc] at h; cases h
            | some x =>
              rw [hc] at h
              rw [cC_ok c hc]
              obtain ⟨x, tm', σ'⟩ := x
              cases x <;> exact h
theorem fF_sound {P : Program} {lf : Nat} {sta : Array Oper → Sta} {spec : Specials} (hsta : ∀ ops, (sta ops).ops = ops) (hmix : P.follows .mixedOrders = true) (hN : NamesOK P) (hs : SpecsSound P spec) : ∀ n, CallSound P (fF P lf sta spec n)
  | 0 => fun f args σ v σ' E w cargs h => by cases h
  | n + 1 => fun f args σ v σ' E w cargs h hR hc =>
    stepF_sound (lf := lf) hN (drawA_sound hsta hmix hN) hs (fF_sound hsta hmix hN hs n) f args σ v σ' E w cargs (fC_ok h) hR hc
end Go.Proofs.YtopbojifllnckaaGreatDoor
namespace Go.Proofs.YtopbojifllnckaaGreatDoor
def mkTab : List Oper → List Nat → List Nat
  | [], tab => tab
  | o :: r, tab => mkTab r (tab ++ [ancOf tab o.after.toList])
def idxF (f : Nat → Bool) : List Oper → Nat → List Nat
  | [], _ => []
  | o :: r, i => bif f (famO o.op) then i :: idxF f r (i + 1) else idxF f r (i + 1)
def loOf (tab effL : List Nat) (i : Nat) : Nat := (effL.filter fun e => (tab.getD i 0).testBit e).length
def ordGo (n : Nat) (tab effL : List Nat) : List Nat → Nat → List Nat
  | [], k => (List.range n).filter fun i => !effL.contains i && Nat.beq (loOf tab effL i) k
  | e :: r, k => ((List.range n).filter fun i => !effL.contains i && Nat.beq (loOf tab effL i) k) ++ e :: ordGo n tab effL r (k + 1)
def effOf (ops : Array Oper) : List Nat := idxF (fun k => Nat.beq k 3 || Nat.beq k 4) ops.toList 0
def mkOf (ops : Array Oper) : List Nat := idxF (fun k => Nat.beq k 2) ops.toList 0
def tabOf (ops : Array Oper) : List Nat := mkTab ops.toList []
/-- The plan of a region. -/
def staOf (ops : Array Oper) : Sta := ⟨ops, tabOf ops, effOf ops, mkOf ops, ordGo ops.size (tabOf ops) (effOf ops) (effOf ops) 0⟩
end Go.Proofs.YtopbojifllnckaaGreatDoor
