/- All operations as one; a plain region. The evaluator: code, functions, calls. The evaluator: functions. -/
import Derived.Deep.LoopGhost
import Derived.Scope
import Derived.Test.YtopbojifllnckaaGreatDoorG08
namespace Go.Proofs.YtopbojifllnckaaGreatDoor
section
variable {P : Program} {w : World} {E : Env} {tm : Tm} {a : Act} {σ : St}
theorem opE_sound (hR : Rel P E σ w) (ht : TmR E tm a.tmps) {o : Oper} {v : AV} {σ' : St} (h : opE P tm σ o = some (v, σ')) : RanBy P E σ w a o v σ' := by
  obtain ⟨dst, op, ty, pos, after, guard⟩ := o
  unfold opE at h
  simp only at h
  split at h
  · next t x y =>
    split at h <;> first | (cases h; done) | skip
    next vx vy hx hy =>
    split at h <;> first | (cases h; done) | skip
    next σ1 hs =>
    injection h with h
    obtain ⟨rfl, rfl⟩ := Prod.mk.inj h
    obtain ⟨w', h1, h2⟩ := store_sound hR hs (aev_conc ht hx) (aev_conc ht hy)
    exact ⟨E, w', undef, Or.inr ⟨by simp only [execOp]; rw [Sem.run_bind, h1]; rfl, rfl⟩, rfl, h2⟩
  · next t m k y =>
    split at h <;> first | (cases h; done) | skip
    next vm vk vy hm hk hy =>
    split at h <;> first | (cases h; done) | skip
    next σ1 hs =>
    injection h with h
    obtain ⟨rfl, rfl⟩ := Prod.mk.inj h
    obtain ⟨w', h1, h2⟩ := mapUp_sound hR hs (aev_conc ht hm) (aev_conc ht hk) (aev_conc ht hy)
    exact ⟨E, w', undef, Or.inr ⟨by simp only [execOp]; rw [Sem.run_bind, h1]; rfl, rfl⟩, rfl, h2⟩
  · next t x =>
    split at h <;> first | (cases h; done) | skip
    next vx hx =>
    obtain ⟨E', w', c, h1, h2, h3⟩ := range_sound hR h (aev_conc ht hx)
    exact ⟨E', w', c, Or.inl (by simp only [execOp]; rw [Sem.run_bind, h1]; rfl), h2, h3⟩
  · next x =>
    split at h <;> first | (cases h; done) | skip
    next vx hx =>
    obtain ⟨E', w', c, h1, h2, h3⟩ := next_sound hR ty h (aev_conc ht hx)
    exact ⟨E', w', c, Or.inl (by simp only [execOp]; rw [Sem.run_bind, h1]; rfl), h2, h3⟩
  · next x =>
    split at h <;> first | (cases h; done) | skip
    next vx hx =>
    split at h <;> first | (cases h; done) | skip
    next r hr =>
    injection h with h
    obtain ⟨rfl, rfl⟩ := Prod.mk.inj h
    obtain ⟨c, h1, h2⟩ := entry_sound (P := P) hR hr (aev_conc ht hx)
    exact ⟨E, w, c, Or.inl (by simp only [execOp]; rw [Sem.run_bind, h1]; rfl), h2, Step.refl hR⟩
  · next args ts =>
    split at h <;> first | (cases h; done) | skip
    next s x sT xT hv hts =>
    have e1 := avs_concs ht hv
    obtain ⟨c1, es, h3, h4, h5⟩ := concs_cons e1
    obtain ⟨c2, es, rfl, h6, h7⟩ := concs_cons h5
    obtain rfl := concs_nil h7
    have e2 : args.map a.eval = #[c1, c2] := by apply Array.ext'; simpa using h3
    have e3 : ts = #[sT, xT] := by apply Array.ext'; simpa using hts
    obtain ⟨E', w', c, h8, h9, h10⟩ := app_sound (ty := ty) hR h h4 h6
    exact ⟨E', w', c, Or.inl (by simp only [execOp, resolve, Sem.run_bind, Sem.run_pure, Result.andThen_ok, invoke, builtin, e2, e3, h8]), h9, h10⟩
  · next args ts =>
    split at h <;> first | (cases h; done) | skip
    next s x sT xT hv hts =>
    have e1 := avs_concs ht hv
    obtain ⟨c1, es, h3, h4, h5⟩ := concs_cons e1
    obtain ⟨c2, es, rfl, h6, h7⟩ := concs_cons h5
    obtain rfl := concs_nil h7
    have e2 : args.map a.eval = #[c1, c2] := by apply Array.ext'; simpa using h3
    have e3 : ts = #[sT, xT] := by apply Array.ext'; simpa using hts
    obtain ⟨E', w', c, h8, h9, h10⟩ := copy_sound (ty := ty) (sT := xT) hR h h4 h6
    exact ⟨E', w', c, Or.inl (by simp only [execOp, resolve, Sem.run_bind, Sem.run_pure, Result.andThen_ok, invoke, builtin, e2, e3, h8]), h9, h10⟩
  · next args ts =>
    split at h <;> first | (cases h; done) | skip
    next x t hv hts =>
    have e1 := avs_concs ht hv
    obtain ⟨c1, es, h3, h4, h5⟩ := concs_cons e1
    obtain rfl := concs_nil h5
    have e2 : args.map a.eval = #[c1] := by apply Array.ext'; simpa using h3
    have e3 : ts = #[t] := by apply Array.ext'; simpa using hts
    obtain ⟨E', w', c, h8, h9, h10⟩ := clear_sound (ty := ty) hR h h4
    exact ⟨E', w', c, Or.inl (by simp only [execOp, resolve, Sem.run_bind, Sem.run_pure, Result.andThen_ok, invoke, builtin, e2, e3, h8]), h9, h10⟩
  · cases h
end
/-- What an operation that is no call comes to. -/
noncomputable def opX (P : Program) (tm : Tm) (σ : St) (o : Oper) : Option (AV × St) :=
  match opP P tm o with
  | some v => some (v, σ)
  | none => match opR P tm σ o with
    | some v => some (v, σ)
    | none => match opA P tm σ.next o with
      | some (v, ob) => bif Tr.inB σ.next then some (v, σ.add ob) else none
      | none => opE P tm σ o
/-- Function and arguments of a call. -/
noncomputable def callA (tm : Tm) (o : Oper) : Option (Nat × List AV) :=
  match o.op with
  | .call ⟨.value f, args, _⟩ => match aev tm f, avs tm args.toList with
    | some (.func g x y), some vs => some (g, x ++ (vs ++ y))
    | _, _ => none
  | _ => none
abbrev CallF := Nat → List AV → St → Option (AV × St)
/-- What is said of a call. -/
def CallPost (P : Program) (E : Env) (σ : St) (w : World) (v : AV) (σ' : St) (e : Ending) (w' : World) : Prop :=
  ∃ E' c, e = .returned c ∧ conc E' v = some c ∧ Step P E σ w E' σ' w'
def CallSound (P : Program) (call : CallF) : Prop := ∀ (f : Nat) (args : List AV) (σ : St) (v : AV) (σ' : St) (E : Env) (w : World) (cargs : List Value),
  call f args σ = some (v, σ') → Rel P E σ w → concs E args = some cargs → (∃ fn, P.funcs[f]? = some fn ∧ fn.body.isSome = true) ∧ Calls P f cargs.toArray w (CallPost P E σ w v σ')
/-- No function is the one that the model treats by its name. -/
def NamesOK (P : Program) : Prop := ∀ (f : Nat) (fn : Func), P.funcs[f]? = some fn → (fn.name == "runtime.NumGoroutine") = false
section
variable {P : Program} {w : World} {E : Env} {tm : Tm} {a : Act} {σ : St}
theorem opX_sound (hR : Rel P E σ w) (ht : TmR E tm a.tmps) {o : Oper} {v : AV} {σ' : St} (h : opX P tm σ o = some (v, σ')) : RanBy P E σ w a o v σ' := by
  unfold opX at h
  split at h
  · next u hp =>
    injection h with h
    obtain ⟨rfl, rfl⟩ := Prod.mk.inj h
    obtain ⟨c, h1, h2⟩ := opP_sound (P := P) (w := w) ht hp
    exact ⟨E, w, c, Or.inl h1, h2, Step.refl hR⟩
  · split at h
    · next u hp =>
      injection h with h
      obtain ⟨rfl, rfl⟩ := Prod.mk.inj h
      obtain ⟨c, h1, h2⟩ := opR_sound hR ht hp
      exact ⟨E, w, c, Or.inl h1, h2, Step.refl hR⟩
    · split at h
      · next u ob hp =>
        cases hb : Tr.inB σ.next with
        | false => rw [hb] at h; cases h
        | true =>
          rw [hb] at h
          simp only [cond_true, Option.some.injEq, Prod.mk.injEq] at h
          obtain ⟨rfl, rfl⟩ := h
          obtain ⟨c, obj, h1, h2, h3⟩ := opA_sound (P := P) (w := w) ht hp
          refine ⟨_, _, c, Or.inl h1, h3 _ (Env.add_self E σ.next (w.heap.size, 0)), Step.alloc hR (Tr.inB_lt hb) (h2.mono (Env.add_le (next_none hR)))⟩
      · exact opE_sound hR ht h
theorem call_run (hN : NamesOK P) (ht : TmR E tm a.tmps) {o : Oper} {f : Nat} {vs : List AV} (h : callA tm o = some (f, vs)) (hf : ∃ fn, P.funcs[f]? = some fn ∧ fn.body.isSome = true) :
    ∃ cargs, concs E vs = some cargs ∧ (execOp a.eval o).run P w = .ok (.enter f cargs.toArray) w := by
  obtain ⟨dst, op, ty, pos, after, guard⟩ := o
  unfold callA at h
  simp only at h
  split at h <;> first | (cases h; done) | skip
  next fx args ts =>
  split at h <;> first | (cases h; done) | skip
  next g x y us hfx hus =>
  injection h with h
  obtain ⟨rfl, rfl⟩ := Prod.mk.inj h
  have e1 := aev_conc ht hfx
  have e2 := avs_concs ht hus
  simp only [conc, Option.bind_eq_some_iff, Option.map_eq_some_iff] at e1
  obtain ⟨x', hx', y', hy', e3⟩ := e1
  refine ⟨x' ++ (args.toList.map a.eval ++ y'), concs_append hx' (concs_append e2 hy'), ?_⟩
  obtain ⟨fn, hfn, hb⟩ := hf
  have hbn : fn.body.isNone = false := by cases hbb : fn.body <;> simp_all
  have hnm := hN _ _ hfn
  have hpr : (program).run P w = .ok P w := rfl
  simp only [execOp, resolve, ← e3, Deferred.ofValue, Sem.run_bind, Sem.run_pure, Result.andThen_ok, invoke, callFunc, hpr, hfn, hnm, hbn, Bool.false_eq_true, if_false]
  congr 2
  apply Array.ext'
  simp
end
/-- Is the operation wanted? -/
noncomputable def wantA (ops : Array Oper) (tm : Tm) (o : Oper) : Option Bool :=
  match o.guard with
  | none => some true
  | some (j, want) => match ops[j]? with
    | some oj => match oj.dst with
      | some d => match tm.get d with
        | some (.bool b) => some (b == want)
        | some (.tup _) => some false
        | _ => none
      | none => some false
    | none => some false
theorem want_sound {E : Env} {tm : Tm} {a : Act} (ht : TmR E tm a.tmps) {ops : Array Oper} {o : Oper} {b : Bool} (h : wantA ops tm o = some b) : Region.wanted o (yielded ops a.tmps) = b := by
  unfold wantA at h
  unfold Region.wanted
  split at h
  · next hg => rw [hg]; injection h
  · next j want hg =>
    rw [hg]
    simp only
    unfold yielded
    split at h
    · next oj hj =>
      simp only [hj, Option.bind_some]
      split at h
      · next d hd =>
        rw [hd]
        simp only [Option.bind_some]
        split at h
        · next b' hb' =>
          obtain ⟨c, h1, h2⟩ := ht _ _ hb'
          simp only [conc, Option.some.injEq] at h2
          subst h2
          rw [h1]
          injection h
        · next l hb' =>
          obtain ⟨c, h1, h2⟩ := ht _ _ hb'
          simp only [conc, Option.map_eq_some_iff] at h2
          obtain ⟨l', -, rfl⟩ := h2
          rw [h1]
          injection h
        · cases h
      · next hd => rw [hd]; injection h
    · next hj => rw [hj]; injection h
noncomputable def putA (nt : Nat) (dst : Option Nat) (v : AV) (tm : Tm) : Option Tm :=
  match dst with
  | none => some tm
  | some d => bif Nat.blt d nt && Tm.inT d then some (Tm.put v tm d) else none
theorem put_sound {E : Env} {nt : Nat} {dst : Option Nat} {v : AV} {tm tm' : Tm} {a : Act} {c : Value} (h : putA nt dst v tm = some tm') (ht : TmR E tm a.tmps) (hn : a.tmps.size = nt) (hc : conc E v = some c) :
    TmR E tm' (a.put dst c).tmps ∧ (a.put dst c).tmps.size = nt ∧ (a.put dst c).defers = a.defers := by
  unfold putA at h
  split at h
  · injection h with h; subst h; exact ⟨ht, hn, rfl⟩
  · next d =>
    cases hb : (Nat.blt d nt && Tm.inT d) with
    | false => rw [hb] at h; cases h
    | true =>
      rw [hb] at h
      simp only [cond_true, Option.some.injEq] at h
      subst h
      rw [Bool.and_eq_true] at hb
      exact ⟨ht.put (Tm.inT_lt hb.2) (by rw [hn]; exact blt_lt hb.1) hc, by simp [Act.put, hn], rfl⟩
/-- The operations of a plain region. -/
noncomputable def evOps (P : Program) (call : CallF) (nt : Nat) (ops : Array Oper) : List Oper → Tm → St → Option (Tm × St)
  | [], tm, σ => some (tm, σ)
  | o :: rest, tm, σ => match wantA ops tm o with
    | some true => match (match callA tm o with
        | some (f, vs) => call f vs σ
        | none => opX P tm σ o) with
      | some (v, σ') => match putA nt o.dst v tm with
        | some tm' => evOps P call nt ops rest tm' σ'
        | none => none
      | none => none
    | some false => match putA nt o.dst (.tup []) tm with
      | some tm' => evOps P call nt ops rest tm' σ
      | none => none
    | none => none
section
variable {P : Program} {call : CallF} {nt : Nat} {ops : Array Oper}
theorem evOps_sound (hN : NamesOK P) (hcall : CallSound P call) {Q : Exit → Act → World → Prop} : ∀ (l : List Oper) {tm tm' : Tm} {σ σ' : St} {E : Env} {w : World} {a : Act}, evOps P call nt ops l tm σ = some (tm', σ') → Rel P E σ w → TmR E tm a.tmps → a.tmps.size = nt →
    (∀ E' a' w', Step P E σ w E' σ' w' → TmR E' tm' a'.tmps → a'.tmps.size = nt → a'.defers = a.defers → Q .normal a' w') → wpList P ops Q l a w
  | [], tm, tm', σ, σ', E, w, a, h, hR, ht, hn, hQ => by
    simp only [evOps, Option.some.injEq, Prod.mk.injEq] at h
    obtain ⟨rfl, rfl⟩ := h
    exact hQ E a w (Step.refl hR) ht hn rfl
  | o :: rest, tm, tm', σ, σ', E, w, a, h, hR, ht, hn, hQ => by
    unfold evOps at h
    split at h
    · next hw =>
      split at h <;> first | (cases h; done) | skip
      next v σ1 hv =>
      split at h <;> first | (cases h; done) | skip
      next tm1 hp =>
      have key : ∀ E1 c w1, conc E1 v = some c → Step P E σ w E1 σ1 w1 → wpList P ops Q rest (a.put o.dst c) w1 := fun E1 c w1 hc hs => by
        obtain ⟨h1, h2, h3⟩ := put_sound hp (ht.mono hs.le) hn hc
        exact evOps_sound hN hcall rest h hs.rel h1 h2 fun E' a' w' k1 k2 k3 k4 => hQ E' a' w' (hs.trans k1) k2 k3 (k4.trans h3)
      refine wpList_step fun K hK => ?_
      rw [want_sound ht hw]
      simp only [if_true]
      unfold Oper.wp
      split at hv
      · next f vs hc =>
        have hfn : ∃ fn, P.funcs[f]? = some fn ∧ fn.body.isSome = true := by
          obtain ⟨dst, op, ty, pos, after, guard⟩ := o
          have hc' := hc
          unfold callA at hc'
          simp only at hc'
          split at hc' <;> first | (cases hc'; done) | skip
          split at hc' <;> first | (cases hc'; done) | skip
          next fx args ts g x y us hfx hus =>
          injection hc' with hc'
          obtain ⟨rfl, rfl⟩ := Prod.mk.inj hc'
          have e1 := aev_conc ht hfx
          have e2 := avs_concs ht hus
          simp only [conc, Option.bind_eq_some_iff, Option.map_eq_some_iff] at e1
          obtain ⟨x', hx', y', hy', -⟩ := e1
          exact (hcall _ _ _ _ _ E w _ hv hR (concs_append hx' (concs_append e2 hy'))).1
        obtain ⟨cargs, h1, h2⟩ := call_run (w := w) hN ht hc hfn
        rw [h2, Oper.upon_enter]
        refine (hcall _ _ _ _ _ E w _ hv hR h1).2.mono ?_
        rintro e w1 ⟨E1, c, rfl, h3, h4⟩
        exact hK _ _ (key E1 c w1 h3 h4)
      · obtain ⟨E1, w1, c, h1, h2, h3⟩ := opX_sound hR ht hv
        rcases h1 with h1 | ⟨h1, rfl⟩
        · rw [h1, Oper.upon_value]
          exact hK _ _ (key E1 c w1 h2 h3)
        · rw [h1, Oper.upon_skip]
          exact hK _ _ (key E1 undef w1 h2 h3)
    · next hw =>
      split at h <;> first | (cases h; done) | skip
      next tm1 hp =>
      refine wpList_step fun K hK => ?_
      rw [want_sound ht hw]
      simp only [Bool.false_eq_true, if_false]
      obtain ⟨h1, h2, h3⟩ := put_sound (c := undef) hp ht hn rfl
      exact hK _ _ (evOps_sound hN hcall rest h hR h1 h2 fun E' a' w' k1 k2 k3 k4 => hQ E' a' w' k1 k2 k3 (k4.trans h3))
    · cases h
end
end Go.Proofs.YtopbojifllnckaaGreatDoor
namespace Go.Proofs.YtopbojifllnckaaGreatDoor
/-- How a piece of code ends. -/
inductive AX where
  | norm
  | exit (id : Nat)
  | ret
def AX.conc : AX → Exit
  | .norm => .normal
  | .exit id => .exit id
  | .ret => .ret
abbrev CRes := Option (AX × Tm × St)
abbrev CF := Tm → St → CRes
noncomputable def loopN (f : CF) (n : Nat) : CF :=
  Nat.rec (motive := fun _ => CF) (fun _ _ => none) (fun _ ih tm σ => match f tm σ with
    | some (.norm, tm', σ') => ih tm' σ'
    | r => r) n
theorem loopN_succ (f : CF) (n : Nat) (tm : Tm) (σ : St) : loopN f (n + 1) tm σ = match f tm σ with
    | some (.norm, tm', σ') => loopN f n tm' σ'
    | r => r := rfl
abbrev DrawF := Array Oper → Tm → St → Option (Tm × St)
section
variable (P : Program) (call : CallF) (draw : DrawF) (nt lf : Nat)
noncomputable def evC : Code → CF
  | .skip, tm, σ => some (.norm, tm, σ)
  | .region _ ops false, tm, σ => match evOps P call nt ops ops.toList tm σ with
    | some (tm', σ') => some (.norm, tm', σ')
    | none => none
  | .region _ ops true, tm, σ => match draw ops tm σ with
    | some (tm', σ') => some (.norm, tm', σ')
    | none => none
  | .seq a b, tm, σ => match evC a tm σ with
    | some (.norm, tm', σ') => evC b tm' σ'
    | r => r
  | .cond c a b, tm, σ => match aev tm c with
    | some (.bool true) => evC a tm σ
    | some (.bool false) => evC b tm σ
    | _ => none
  | .block id body, tm, σ => match evC body tm σ with
    | some (.exit id', tm', σ') => bif Nat.beq id' id then some (.norm, tm', σ') else some (.exit id', tm', σ')
    | r => r
  | .loop body, tm, σ => loopN (evC body) lf tm σ
  | .exit id, tm, σ => some (.exit id, tm, σ)
  | .label _, tm, σ => some (.norm, tm, σ)
  | .scope body, tm, σ => evC body tm σ
  | .ret, tm, σ => some (.ret, tm, σ)
  | _, _, _ => none
end
/-- What is said behind a piece of code. -/
def After (P : Program) (nt : Nat) (E : Env) (σ : St) (w : World) (a : Act) (x : AX) (tm' : Tm) (σ' : St) (e : Exit) (a' : Act) (w' : World) : Prop :=
  e = x.conc ∧ a'.tmps.size = nt ∧ a'.defers = a.defers ∧ ∃ E', Step P E σ w E' σ' w' ∧ TmR E' tm' a'.tmps
def DrawSound (P : Program) (nt : Nat) (draw : DrawF) : Prop := ∀ (id : Nat) (ops : Array Oper) (tm tm' : Tm) (σ σ' : St) (E : Env) (w : World) (a : Act),
  draw ops tm σ = some (tm', σ') → Rel P E σ w → TmR E tm a.tmps → a.tmps.size = nt → (Code.region id ops true).wp P (After P nt E σ w a .norm tm' σ') a w
section
variable {P : Program} {call : CallF} {draw : DrawF} {nt lf : Nat}
theorem After.trans {E E' : Env} {σ σ' : St} {w w' : World} {a a' : Act} {x : AX} {tm'' : Tm} {σ'' : St} {e : Exit} {a'' : Act} {w'' : World} (hs : Step P E σ w E' σ' w') (hd : a'.defers = a.defers) (h : After P nt E' σ' w' a' x tm'' σ'' e a'' w'') : After P nt E σ w a x tm'' σ'' e a'' w'' := by
  obtain ⟨h1, h2, h3, E'', h4, h5⟩ := h
  exact ⟨h1, h2, h3.trans hd, E'', hs.trans h4, h5⟩
theorem wp_scope_ {c : Code} {Q : Exit → Act → World → Prop} {a : Act} {w : World} (hg : ∀ l a w, ¬ Q (.goto l) a w) (h : c.wp P Q a w) : (Code.scope c).wp P Q a w :=
  wp_scope_straight (wp_mono h fun e a w q => by cases e <;> first | exact q | exact absurd q (hg _ _ _))
theorem evC_sound (hN : NamesOK P) (hcall : CallSound P call) (hdraw : DrawSound P nt draw) : ∀ (c : Code) {tm tm' : Tm} {σ σ' : St} {x : AX} {E : Env} {w : World} {a : Act}, evC P call draw nt lf c tm σ = some (x, tm', σ') →
    Rel P E σ w → TmR E tm a.tmps → a.tmps.size = nt → c.wp P (After P nt E σ w a x tm' σ') a w
  | .skip, tm, tm', σ, σ', x, E, w, a, h, hR, ht, hn => by
    simp only [evC, Option.some.injEq, Prod.mk.injEq] at h
    obtain ⟨rfl, rfl, rfl⟩ := h
    exact wp_skip ⟨rfl, hn, rfl, E, Step.refl hR, ht⟩
  | .label _, tm, tm', σ, σ', x, E, w, a, h, hR, ht, hn => by
    simp only [evC, Option.some.injEq, Prod.mk.injEq] at h
    obtain ⟨rfl, rfl, rfl⟩ := h
    exact wp_label ⟨rfl, hn, rfl, E, Step.refl hR, ht⟩
  | .exit id, tm, tm', σ, σ', x, E, w, a, h, hR, ht, hn => by
    simp only [evC, Option.some.injEq, Prod.mk.injEq] at h
    obtain ⟨rfl, rfl, rfl⟩ := h
    exact wp_exit ⟨rfl, hn, rfl, E, Step.refl hR, ht⟩
  | .ret, tm, tm', σ, σ', x, E, w, a, h, hR, ht, hn => by
    simp only [evC, Option.some.injEq, Prod.mk.injEq] at h
    obtain ⟨rfl, rfl, rfl⟩ := h
    exact wp_ret ⟨rfl, hn, rfl, E, Step.refl hR, ht⟩
  | .region id ops false, tm, tm', σ, σ', x, E, w, a, h, hR, ht, hn => by
    simp only [evC] at h
    split at h <;> first | (cases h; done) | skip
    next tm1 σ1 h1 =>
    simp only [Option.some.injEq, Prod.mk.injEq] at h
    obtain ⟨rfl, rfl, rfl⟩ := h
    exact wp_region_list (evOps_sound hN hcall ops.toList h1 hR ht hn fun E' a' w' k1 k2 k3 k4 => ⟨rfl, k3, k4, E', k1, k2⟩)
  | .region id ops true, tm, tm', σ, σ', x, E, w, a, h, hR, ht, hn => by
    simp only [evC] at h
    split at h <;> first | (cases h; done) | skip
    next tm1 σ1 h1 =>
    simp only [Option.some.injEq, Prod.mk.injEq] at h
    obtain ⟨rfl, rfl, rfl⟩ := h
    exact hdraw id ops _ _ _ _ E w a h1 hR ht hn
  | .seq c d, tm, tm', σ, σ', x, E, w, a, h, hR, ht, hn => by
    simp only [evC] at h
    refine wp_seq ?_
    split at h
    · next tm1 σ1 h1 =>
      refine wp_mono (evC_sound hN hcall hdraw c h1 hR ht hn) ?_
      rintro e a1 w1 ⟨rfl, h2, h3, E1, h4, h5⟩
      exact wp_mono (evC_sound hN hcall hdraw d h h4.rel h5 h2) fun e a2 w2 h6 => h6.trans h4 h3
    · next hne =>
      refine wp_mono (evC_sound hN hcall hdraw c h hR ht hn) ?_
      rintro e a1 w1 ⟨rfl, h2, h3, E1, h4, h5⟩
      cases x with
      | norm => exact absurd h (hne _ _)
      | exit id => exact ⟨rfl, h2, h3, E1, h4, h5⟩
      | ret => exact ⟨rfl, h2, h3, E1, h4, h5⟩
  | .cond c d e, tm, tm', σ, σ', x, E, w, a, h, hR, ht, hn => by
    simp only [evC] at h
    split at h <;> first | (cases h; done) | skip
    · next hc =>
      have h1 := aev_conc ht hc
      simp only [conc, Option.some.injEq] at h1
      exact wp_cond_true h1.symm (evC_sound hN hcall hdraw d h hR ht hn)
    · next hc =>
      have h1 := aev_conc ht hc
      simp only [conc, Option.some.injEq] at h1
      exact wp_cond_false h1.symm (evC_sound hN hcall hdraw e h hR ht hn)
  | .block id body, tm, tm', σ, σ', x, E, w, a, h, hR, ht, hn => by
    simp only [evC] at h
    refine wp_block ?_
    split at h
    · next id' tm1 σ1 h1 =>
      refine wp_mono (evC_sound hN hcall hdraw body h1 hR ht hn) ?_
      rintro e a1 w1 ⟨rfl, h2, h3, E1, h4, h5⟩
      cases hb : Nat.beq id' id with
      | true =>
        rw [hb] at h
        simp only [cond_true, Option.some.injEq, Prod.mk.injEq] at h
        obtain ⟨rfl, rfl, rfl⟩ := h
        simp only [AX.conc, Exit.inBlock, beq_eq hb, if_true]
        exact ⟨rfl, h2, h3, E1, h4, h5⟩
      | false =>
        rw [hb] at h
        simp only [cond_false, Option.some.injEq, Prod.mk.injEq] at h
        obtain ⟨rfl, rfl, rfl⟩ := h
        have hne : id' ≠ id := fun e => by subst e; simp at hb
        simp only [AX.conc, Exit.inBlock, hne, if_false]
        exact ⟨rfl, h2, h3, E1, h4, h5⟩
    · next hne =>
      refine wp_mono (evC_sound hN hcall hdraw body h hR ht hn) ?_
      rintro e a1 w1 ⟨rfl, h2, h3, E1, h4, h5⟩
      cases x with
      | norm => exact ⟨rfl, h2, h3, E1, h4, h5⟩
      | exit id' => exact absurd h (hne _ _ _)
      | ret => exact ⟨rfl, h2, h3, E1, h4, h5⟩
  | .loop body, tm, tm', σ, σ', x, E, w, a, h, hR, ht, hn => by
    simp only [evC] at h
    refine wp_loop_ghost (fun n a1 w1 => a1.tmps.size = nt ∧ a1.defers = a.defers ∧ ∃ tm1 σ1 E1, Step P E σ w E1 σ1 w1 ∧ TmR E1 tm1 a1.tmps ∧ loopN (evC P call draw nt lf body) n tm1 σ1 = some (x, tm', σ')) lf ⟨hn, rfl, tm, σ, E, Step.refl hR, ht, h⟩ ?_
    rintro n a1 w1 ⟨h1, h2, tm1, σ1, E1, h3, h4, h5⟩
    cases n with
    | zero => cases h5
    | succ n =>
      rw [loopN_succ] at h5
      split at h5
      · next tm2 σ2 h6 =>
        refine wp_mono (evC_sound hN hcall hdraw body h6 h3.rel h4 h1) ?_
        rintro e a2 w2 ⟨rfl, k2, k3, E2, k4, k5⟩
        exact ⟨n, Nat.lt_succ_self n, k2, k3.trans h2, tm2, σ2, E2, h3.trans k4, k5, h5⟩
      · next hne =>
        refine wp_mono (evC_sound hN hcall hdraw body h5 h3.rel h4 h1) ?_
        rintro e a2 w2 ⟨rfl, k2, k3, E2, k4, k5⟩
        cases x with
        | norm => exact absurd h5 (hne _ _)
        | exit id => exact ⟨rfl, k2, k3.trans h2, E2, h3.trans k4, k5⟩
        | ret => exact ⟨rfl, k2, k3.trans h2, E2, h3.trans k4, k5⟩
  | .scope body, tm, tm', σ, σ', x, E, w, a, h, hR, ht, hn => by
    simp only [evC] at h
    exact wp_scope_ (fun l a w hq => by obtain ⟨h1, -⟩ := hq; cases x <;> cases h1) (evC_sound hN hcall hdraw body h hR ht hn)
  | .rangeFunc _ _ _ _, tm, tm', σ, σ', x, E, w, a, h, hR, ht, hn => by simp [evC] at h
  | .goto _, tm, tm', σ, σ', x, E, w, a, h, hR, ht, hn => by simp [evC] at h
  | .refuse _, tm, tm', σ, σ', x, E, w, a, h, hR, ht, hn => by simp [evC] at h
end
end Go.Proofs.YtopbojifllnckaaGreatDoor
namespace Go.Proofs.YtopbojifllnckaaGreatDoor
section
variable (P : Program)
noncomputable def resL (tm : Tm) (σ : St) : List ResultVar → Option (List AV)
  | [] => some []
  | .tmp t :: r => match tm.get t, resL tm σ r with
    | some v, some vs => some (v :: vs)
    | _, _ => none
  | .cell x t :: r => match tm.get x with
    | some p => match loadA P σ t p, resL tm σ r with
      | some v, some vs => some (v :: vs)
      | _, _ => none
    | none => none
noncomputable def resA (l : List AV) : AV :=
  match l with
  | [v] => v
  | l => .tup l
/-- What stands in for a function's own text. -/
abbrev Specials := Nat → Option (CallF → List AV → St → Option (AV × St))
abbrev Draws := CallF → Nat → DrawF
/-- A call, its own calls given. -/
noncomputable def stepF (draw : Draws) (spec : Specials) (lf : Nat) (call : CallF) : CallF := fun f args σ =>
    match spec f with
    | some g => g call args σ
    | none => match P.funcs[f]? with
      | some fn => match fn.body with
        | some c => bif Nat.blt args.length 256 then
            (match evC P call (draw call (args.length + (fn.ntmps - args.length))) (args.length + (fn.ntmps - args.length)) lf c (trT args 0 Tm.e) σ with
            | some (.norm, tm', σ') => match resL P tm' σ' fn.results.toList with
              | some vs => some (resA vs, σ')
              | none => none
            | some (.ret, tm', σ') => match resL P tm' σ' fn.results.toList with
              | some vs => some (resA vs, σ')
              | none => none
            | _ => none) else none
        | none => none
      | none => none
end
section
variable {P : Program} {w : World} {E : Env} {σ : St} {tm : Tm} {a : Act}
/-- One result, in the model. -/
def resOne (tmps : Array Value) : ResultVar → Sem Value
  | .tmp t => pure (tmps.getD t undef)
  | .cell a t => do loadVar t (← asAddr (tmps.getD a undef))
theorem results_eq (fn : Func) (tmps : Array Value) : results fn tmps = (do
    let vs ← fn.results.mapM (resOne tmps)
    pure (if h : vs.size = 1 then vs[0] else .tuple vs) : Sem Value) := by
  rfl
theorem res_run (hR : Rel P E σ w) (ht : TmR E tm a.tmps) : ∀ {l : List ResultVar} {vs : List AV}, resL P tm σ l = some vs →
    ∃ cs, (l.mapM (resOne a.tmps)).run P w = .ok cs w ∧ concs E vs = some cs
  | [], vs, h => by
    simp only [resL, Option.some.injEq] at h
    subst h
    exact ⟨[], rfl, rfl⟩
  | .tmp t :: r, vs, h => by
    simp only [resL] at h
    split at h <;> first | (cases h; done) | skip
    next v us h1 h2 =>
    injection h with h
    subst h
    obtain ⟨c, h3, h4⟩ := ht _ _ h1
    obtain ⟨cs, h5, h6⟩ := res_run hR ht h2
    refine ⟨c :: cs, ?_, concs_cons_mk h4 h6⟩
    have hg : a.tmps.getD t undef = c := by rw [Array.getD_eq_getD_getElem?, h3]; rfl
    rw [List.mapM_cons]
    simp only [resOne, Sem.run_bind, Sem.run_pure, Result.andThen_ok, hg, h5]
  | .cell x t :: r, vs, h => by
    simp only [resL] at h
    split at h <;> first | (cases h; done) | skip
    next p hp =>
    split at h <;> first | (cases h; done) | skip
    next v us h1 h2 =>
    injection h with h
    subst h
    obtain ⟨cp, h3, h4⟩ := ht _ _ hp
    obtain ⟨cs, h5, h6⟩ := res_run hR ht h2
    obtain ⟨c, h7, h8⟩ := load_sound hR h1 h4
    refine ⟨c :: cs, ?_, concs_cons_mk h8 h6⟩
    have hg : a.tmps.getD x undef = cp := by rw [Array.getD_eq_getD_getElem?, h3]; rfl
    have hl : (do loadVar t (← asAddr cp) : Sem Value).run P w = .ok c w := by
      unfold loadA at h1
      split at h1 <;> first | (cases h1; done) | skip
      simp only [conc, Option.map_eq_some_iff] at h4
      obtain ⟨rr, -, rfl⟩ := h4
      exact h7
    rw [List.mapM_cons]
    simp only [resOne, hg]
    rw [Sem.run_bind, hl]
    simp only [Sem.run_bind, Sem.run_pure, Result.andThen_ok, h5]
theorem results_run (hR : Rel P E σ w) (ht : TmR E tm a.tmps) {fn : Func} {vs : List AV} (h : resL P tm σ fn.results.toList = some vs) :
    ∃ c, (results fn a.tmps).run P w = .ok c w ∧ conc E (resA vs) = some c := by
  obtain ⟨cs, h1, h2⟩ := res_run hR ht h
  have h3 : (results fn a.tmps).run P w = .ok (if h : cs.toArray.size = 1 then cs.toArray[0] else .tuple cs.toArray) w := by
    rw [results_eq, Array.mapM_eq_mapM_toList]
    simp only [Sem.run_bind, Sem.run_map, h1]
    rfl
  refine ⟨_, h3, ?_⟩
  match vs, h2 with
  | [], h2 =>
    obtain rfl := concs_nil h2
    rfl
  | [v], h2 =>
    obtain ⟨c, ds, rfl, h4, h5⟩ := concs_cons h2
    obtain rfl := concs_nil h5
    exact h4
  | v :: u :: us, h2 =>
    obtain ⟨c, ds, rfl, h4, h5⟩ := concs_cons h2
    obtain ⟨d, es, rfl, h6, h7⟩ := concs_cons h5
    simp [resA, conc, concs, h4, h6, h7]
end
def DrawsSound (P : Program) (draw : Draws) : Prop := ∀ (call : CallF) (nt : Nat), CallSound P call → DrawSound P nt (draw call nt)
def SpecsSound (P : Program) (spec : Specials) : Prop := ∀ (call : CallF), CallSound P call → ∀ (f : Nat) (g : CallF → List AV → St → Option (AV × St)), spec f = some g → CallSound P (fun f' args σ => if f' = f then g call args σ else none)
theorem stepF_sound {P : Program} {draw : Draws} {spec : Specials} {lf : Nat} {call : CallF} (hN : NamesOK P) (hd : DrawsSound P draw) (hs : SpecsSound P spec) (ih : CallSound P call) : CallSound P (stepF P draw spec lf call) := by
    intro f args σ v σ' E w cargs h hR hc
    have h' := h
    unfold stepF at h'
    clear h
    split at h'
    · next g hg =>
      exact hs _ ih f g hg f args σ v σ' E w cargs (by simp only [if_true]; exact h') hR hc
    · split at h' <;> first | (cases h'; done) | skip
      next fn hfn =>
      split at h' <;> first | (cases h'; done) | skip
      next c hb =>
      cases hlen : Nat.blt args.length 256 with
      | false => rw [hlen] at h'; cases h'
      | true =>
        rw [hlen] at h'
        simp only [cond_true] at h'
        have hlt := blt_lt hlen
        refine ⟨⟨fn, hfn, by simp [hb]⟩, calls_of_wp hfn hb ?_⟩
        have hcl := concs_length hc
        have hsz : cargs.toArray.size = args.length := by simp [hcl]
        rw [hsz]
        have ht0 : TmR E (trT args 0 Tm.e) (cargs.toArray ++ Array.replicate (fn.ntmps - args.length) undef) := fun t u hu => by
          rw [trT_get args 0 Tm.e t (by omega)] at hu
          by_cases hta : t < args.length
          · rw [if_pos (by omega), Nat.sub_zero] at hu
            obtain ⟨cc, h1, h2⟩ := concs_get hc hu
            exact ⟨cc, by rw [Array.getElem?_append_left (by simp [hcl]; exact hta)]; simpa using h1, h2⟩
          · rw [if_neg (by omega), Tm.get_e] at hu
            cases hu
        have hn0 : (cargs.toArray ++ Array.replicate (fn.ntmps - args.length) undef).size = args.length + (fn.ntmps - args.length) := by simp [hcl]
        have fin : ∀ (x : AX) (tm' : Tm) (σ1 : St), (x = .norm ∨ x = .ret) → evC P (call) (draw (call) (args.length + (fn.ntmps - args.length))) (args.length + (fn.ntmps - args.length)) lf c (trT args 0 Tm.e) σ = some (x, tm', σ1) →
            (match resL P tm' σ1 fn.results.toList with
              | some vs => some (resA vs, σ1)
              | none => none) = some (v, σ') → c.wp P (bodyPost P fn (CallPost P E σ w v σ')) { tmps := cargs.toArray ++ Array.replicate (fn.ntmps - args.length) undef, defers := [] } w := by
          intro x tm' σ1 hx hev hres
          split at hres <;> first | (cases hres; done) | skip
          next vs hvs =>
          injection hres with hres
          obtain ⟨rfl, rfl⟩ := Prod.mk.inj hres
          refine wp_mono (evC_sound hN ih (hd _ _ ih) c hev hR ht0 hn0) ?_
          rintro e a' w' ⟨rfl, h2, h3, E', h4, h5⟩
          obtain ⟨cc, h6, h7⟩ := results_run h4.rel h5 hvs
          rcases hx with rfl | rfl
          · exact ⟨h3, cc, h6, E', cc, rfl, h7, h4⟩
          · exact ⟨h3, cc, h6, E', cc, rfl, h7, h4⟩
        split at h'
        · next tm' σ1 hev => exact fin _ _ _ (Or.inl rfl) hev h'
        · next tm' σ1 hev => exact fin _ _ _ (Or.inr rfl) hev h'
        · cases h'
end Go.Proofs.YtopbojifllnckaaGreatDoor
