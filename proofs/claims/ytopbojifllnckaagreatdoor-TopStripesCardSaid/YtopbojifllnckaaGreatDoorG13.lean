/- A region that draws its order: the evaluator is sound. -/
import Derived.Test.YtopbojifllnckaaGreatDoorG12
namespace Go.Proofs.YtopbojifllnckaaGreatDoor
section
variable {P : Program} {call : CallF} {nt : Nat} {s : Sta} {tm0 : Tm} {σ0 : St} {l1 : List Nat} {last : Option Nat} {k : Nat} {pe : List Pe} {q : Vals} {tm : Tm} {σ : St}
/-- An effect, or one that is not wanted. -/
theorem Inv.effect (ok : PlanOK s.plan) (kinds : ∀ i, s.plan.eff i = true → s.plan.al i = false) (h : Inv P call nt s tm0 σ0 l1 last k pe q tm σ) {i : Nat} {o : Oper} (hoi : s.ops[i]? = some o) (hi : i ∉ l1) (he : s.plan.eff i = true) (hbefore : ∀ j, (s.anc i).testBit j = true → j ∈ l1)
    {v : AV} {b : Bool} {R : St} {pe' : List Pe} (hw : wantA s.ops tm o = some b) (hv : b = false → v = .tup []) (hdst : ∀ d, o.dst = some d → d < nt)
    (hnx : σ.next ≤ R.next) (hst : stay P (s.anc i) R pe = some pe') (hx : b = true → opFx P call tm σ o = some (v, R)) (hx0 : b = false → R = σ) :
    Inv P call nt s tm0 σ0 (l1 ++ [i]) (some i) (k + 1) pe' ⟨updF q.T i tm, updF q.V i v, updF q.wn i b, q.id, q.ob, updF q.S (k + 1) R⟩ (putD o.dst v tm) R := by
  have hnum : s.plan.num i = k := by
    have h1 : k ≤ s.plan.num i := by
      rcases Nat.lt_or_ge (s.plan.num i) k with h1 | h1
      · exact absurd ((h.cnt i he).2 h1) hi
      · exact h1
    rcases Nat.lt_or_ge k (s.plan.num i) with h2 | h2
    · obtain ⟨j, hj, hn⟩ := ok.effsur k (Nat.lt_trans h2 (ok.efflt i he).1)
      have h3 := hbefore j (ok.effs j i hj he (by omega))
      have := (h.cnt j hj).1 h3
      omega
    · omega
  have hm := (ok.efflt i he).1
  have hlt : i < s.ops.size := (Array.getElem?_eq_some_iff.1 hoi).1
  have hne : ∀ j ∈ l1, j ≠ i := fun j hj e => hi (e ▸ hj)
  have hfold : ∀ l : List Nat, (∀ j ∈ l, j ∈ l1) → l.foldl (stepT s.plan ⟨updF q.T i tm, updF q.V i v, updF q.wn i b, q.id, q.ob, updF q.S (k + 1) R⟩ fun _ => true) tm0 = l.foldl (stepT s.plan q fun _ => true) tm0 := fun l hl => foldT_congr l tm0 fun j hj => updF_ne (hne j (hl j hj))
  have hold : ∀ j ∈ l1 ++ [i], j = i ∨ (j ∈ l1 ∧ j ≠ i) := fun j hj => by
    rcases List.mem_append.1 hj with h1 | h1
    · exact Or.inr ⟨h1, hne j h1⟩
    · exact Or.inl (List.mem_singleton.1 h1)
  have hwn : ∀ j, q.wn j = true → j ≠ i := fun j hj e => by
    have := h.out i hi
    rw [← e, hj] at this
    cases this
  have hS : ∀ k', k' ≤ k → updF q.S (k + 1) R k' = q.S k' := fun k' hk' => updF_ne (by omega)
  have hroom : σ0.next + s.mkL.length ≤ R.next := by
    have := h.room k (Nat.le_refl _)
    rw [h.cur] at this
    omega
  have hwn2 : ∀ j, updF q.wn i b j = true → s.plan.al j = true → q.wn j = true := fun j hj ha => by
    by_cases e : j = i
    · rw [e, kinds i he] at ha; cases ha
    · rwa [updF_ne e] at hj
  have hidlt : ∀ j, s.plan.al j = true → q.id j < (q.S k).next := fun j ha => id_lt h ha (Nat.le_refl _)
  have hext : ∀ e R', s.plan.eff e = true → e ∈ l1 → Ext s.plan q e R' → Ext s.plan ⟨updF q.T i tm, updF q.V i v, updF q.wn i b, q.id, q.ob, updF q.S (k + 1) R⟩ e R' := fun e R' hee hel hx => by
    have hlt2 := (h.cnt e hee).1 hel
    refine ⟨by show R'.next ≤ (updF q.S (k + 1) R _).next; rw [hS _ (by omega)]; exact hx.next, fun c x hc => ?_, fun j hj hjw => ?_⟩
    · have hc' : (updF q.S (k + 1) R (s.plan.num e + 1)).heap.get c = some x := hc
      rw [hS _ (by omega)] at hc'
      rcases hx.get c x hc' with h5 | ⟨h5, j, h6, h7, h8, h9, h10⟩
      · exact Or.inl h5
      · exact Or.inr ⟨by show c < (updF q.S (k + 1) R _).next; rw [hS _ (by omega)]; exact h5, j, h6, h7, by show updF q.wn i b j = true; rw [updF_ne (hwn j h8)]; exact h8, h9, h10⟩
    · left
      show q.id j < (updF q.S (k + 1) R _).next
      rw [hS _ (by omega)]
      exact id_lt h hj (by omega)
  have hnewx : Ext s.plan ⟨updF q.T i tm, updF q.V i v, updF q.wn i b, q.id, q.ob, updF q.S (k + 1) R⟩ i R := by
    refine ⟨?_, fun c x hc => Or.inl ?_, fun j hj _ => Or.inl ?_⟩
    · show R.next ≤ (updF q.S (k + 1) R (s.plan.num i + 1)).next
      rw [hnum, updF_self]
      exact Nat.le_refl _
    · have hc' : (updF q.S (k + 1) R (s.plan.num i + 1)).heap.get c = some x := hc
      rw [hnum, updF_self] at hc'
      exact hc'
    · show q.id j < (updF q.S (k + 1) R (s.plan.num i)).next
      rw [hnum, hS k (Nat.le_refl _)]
      exact hidlt j hj
  have hstay := stay_ok P hst
  have hbad : ∀ {j e : Nat}, s.plan.eff e = true → s.plan.num e ≤ k → (s.anc e).testBit j = true → ¬ inK s.plan j (k + 1) := fun {j e} h1 h2 h3 h4 => by
    have := h4.2.2 e h1 h3
    omega
  constructor
  · show putD o.dst v tm = (l1 ++ [i]).foldl _ tm0
    rw [List.foldl_append, hfold l1 (fun _ h => h), ← h.tms]
    have hd : dstOf s.plan i = o.dst := by unfold dstOf; rw [show s.plan.ops[i]? = some o from hoi]; rfl
    simp only [List.foldl_cons, List.foldl_nil, stepT, if_true, hd, updF_self]
  · intro k1 j k2 e
    rcases split_last e with ⟨rfl, rfl⟩ | ⟨k3, e⟩
    · rw [hfold k1 (fun _ h => h)]
      show updF q.T j tm j = _
      rw [updF_self]
      exact h.tms
    · rw [hfold k1 (fun x hx => by rw [e]; simp [hx])]
      show updF q.T i tm j = _
      rw [updF_ne (hne j (by rw [e]; simp))]
      exact h.T k1 j k3 e
  · intro j hj oj hoj
    rcases hold j hj with rfl | ⟨h1, h2⟩
    · rw [hoi] at hoj
      cases hoj
      show wantA s.ops (updF q.T j tm j) o = some (updF q.wn j b j)
      rw [updF_self, updF_self]
      exact hw
    · show wantA s.ops (updF q.T i tm j) oj = some (updF q.wn i b j)
      rw [updF_ne h2, updF_ne h2]
      exact h.want j h1 oj hoj
  · intro j hj
    have hj' : updF q.wn i b j = false := hj
    show updF q.V i v j = _
    by_cases e : j = i
    · subst e
      rw [updF_self] at hj' ⊢
      exact hv hj'
    · rw [updF_ne e] at hj' ⊢
      exact h.unw j hj'
  · intro j hj
    have e : j ≠ i := fun e => hj (by rw [e]; simp)
    show updF q.wn i b j = false
    rw [updF_ne e]
    exact h.out j fun hm => hj (by simp [hm])
  · intro j hj
    by_cases e : j = i
    · subst e
      simp [hnum]
    · have h1 : s.plan.num j ≠ k := fun e2 => e (ok.effinj j i hj he (by omega))
      have h2 := h.cnt j hj
      have h3 : j ∈ l1 ++ [i] ↔ j ∈ l1 := by simp [e]
      rw [h3, h2]
      omega
  · omega
  · exact Or.inr ⟨i, rfl, he, by rw [hnum]⟩
  · exact updF_self _ _ _
  · intro k' hk'
    show _ ≤ (updF q.S (k + 1) R k').next
    by_cases e : k' = k + 1
    · rw [e, updF_self]; exact hroom
    · rw [hS k' (by omega)]; exact h.room k' (by omega)
  · exact h.ids
  · intro j hj oj hoj h1 h2 h3 k' hk' hik
    rcases hold j hj with rfl | ⟨h4, h5⟩
    · rw [he] at h1; cases h1
    · have h3' : updF q.wn i b j = true := h3
      rw [updF_ne h5] at h3'
      show ∃ σ', (∀ c x, σ'.heap.get c = some x → (updF q.S (k + 1) R k').heap.get c = some x) ∧ (updF q.S (k + 1) R k').next ≤ σ'.next ∧ opRd P (updF q.T i tm j) σ' oj = some (updF q.V i v j)
      rw [updF_ne h5, updF_ne h5]
      by_cases e : k' = k + 1
      · subst e
        rw [updF_self]
        refine ⟨R, fun c x hc => hc, Nat.le_refl _, ?_⟩
        rcases h.pend j h4 oj hoj h1 h3' with ⟨-, h6⟩ | ⟨-, h6⟩ | ⟨h6, -⟩ | ⟨e, h6, h7, h8⟩
        · unfold opRd; rw [h6]
        · rcases hstay _ h6 with h7 | ⟨-, h7⟩
          · exact absurd hik (hbad he (by omega) h7)
          · simp only [Pe.check] at h7
            split at h7
            · next u hu => rw [hu, vEq_eq _ _ h7]
            · cases h7
        · rw [h2] at h6; cases h6
        · exact absurd hik (hbad h6 (by omega) h8)
      · rw [hS k' (by omega)]
        exact h.rd j h4 oj hoj h1 h2 h3' k' (by omega) hik
  · intro j hj oj hoj h2 h3
    rcases hold j hj with rfl | ⟨h4, h5⟩
    · rw [kinds j he] at h2; cases h2
    · have h3' : updF q.wn i b j = true := h3
      rw [updF_ne h5] at h3'
      obtain ⟨e1, e2⟩ := h.made j h4 oj hoj h2 h3'
      refine ⟨?_, fun k' hk' hik => ?_⟩
      · show opA P (updF q.T i tm j) (q.id j) oj = some (updF q.V i v j, q.ob j)
        rw [updF_ne h5, updF_ne h5]
        exact e1
      · show (updF q.S (k + 1) R k').heap.get (q.id j) = some (q.ob j)
        by_cases e : k' = k + 1
        · subst e
          rw [updF_self]
          have hej : s.plan.eff j = false := by
            cases hb : s.plan.eff j with
            | false => rfl
            | true => rw [kinds j hb] at h2; cases h2
          rcases h.pend j h4 oj hoj hej h3' with ⟨h6, -⟩ | ⟨h6, -⟩ | ⟨-, h6⟩ | ⟨e, h6, h7, h8⟩
          · rw [h2] at h6; cases h6
          · rw [h2] at h6; cases h6
          · rcases hstay _ h6 with h7 | ⟨-, h7⟩
            · exact absurd hik (hbad he (by omega) h7)
            · simp only [Pe.check] at h7
              split at h7
              · next u hu => rw [hu, aoEq_eq h7]
              · cases h7
          · exact absurd hik (hbad h6 (by omega) h8)
        · rw [hS k' (by omega)]
          exact e2 k' (by omega) hik
  · intro j hj oj hoj h1 h3
    rcases hold j hj with rfl | ⟨h4, h5⟩
    · rw [he] at h1; cases h1
    · have h3' : updF q.wn i b j = true := h3
      rw [updF_ne h5] at h3'
      show (_ ∧ opP P (updF q.T i tm j) oj = some (updF q.V i v j)) ∨ (_ ∧ Pe.rd j (updF q.T i tm j) oj (updF q.V i v j) ∈ pe') ∨ (_ ∧ Pe.mk j (q.id j) (q.ob j) ∈ pe') ∨ _
      rw [updF_ne h5, updF_ne h5]
      rcases h.pend j h4 oj hoj h1 h3' with h6 | ⟨h6, h7⟩ | ⟨h6, h7⟩ | ⟨e, h6, h7, h8⟩
      · exact Or.inl h6
      · rcases hstay _ h7 with h8 | ⟨h8, -⟩
        · exact Or.inr (Or.inr (Or.inr ⟨i, he, by omega, h8⟩))
        · exact Or.inr (Or.inl ⟨h6, h8⟩)
      · rcases hstay _ h7 with h8 | ⟨h8, -⟩
        · exact Or.inr (Or.inr (Or.inr ⟨i, he, by omega, h8⟩))
        · exact Or.inr (Or.inr (Or.inl ⟨h6, h8⟩))
      · exact Or.inr (Or.inr (Or.inr ⟨e, h6, by omega, h8⟩))
  · intro j hj oj hoj h1 h3
    show ∃ R', opFx P call (updF q.T i tm j) (updF q.S (k + 1) R (s.plan.num j)) oj = some (updF q.V i v j, R') ∧ _
    rcases hold j hj with rfl | ⟨h4, h5⟩
    · rw [hoi] at hoj
      cases hoj
      have h3' : updF q.wn j b j = true := h3
      rw [updF_self] at h3'
      refine ⟨R, ?_, hnewx⟩
      rw [updF_self, updF_self, hnum, hS k (Nat.le_refl _), h.cur]
      exact hx h3'
    · have h3' : updF q.wn i b j = true := h3
      rw [updF_ne h5] at h3'
      have hlt2 := (h.cnt j h1).1 h4
      obtain ⟨R', e1, e2⟩ := h.fx j h4 oj hoj h1 h3'
      refine ⟨R', ?_, hext j R' h1 h4 e2⟩
      rw [updF_ne h5, updF_ne h5, hS _ (by omega)]
      exact e1
  · intro j hj h1 h3
    show Ext _ _ j (updF q.S (k + 1) R _)
    rcases hold j hj with rfl | ⟨h4, h5⟩
    · have h3' : updF q.wn j b j = false := h3
      rw [updF_self] at h3'
      rw [hnum, hS k (Nat.le_refl _), h.cur, ← hx0 h3']
      exact hnewx
    · have h3' : updF q.wn i b j = false := h3
      rw [updF_ne h5] at h3'
      have hlt2 := (h.cnt j h1).1 h4
      rw [hS _ (by omega)]
      exact hext j _ h1 h4 (h.fx0 j h4 h1 h3')
  · refine ⟨by show _ ≤ (updF q.S (k + 1) R 0).next; rw [hS 0 (Nat.zero_le _)]; exact h.init.1, fun c x hc => ?_⟩
    have hc' : (updF q.S (k + 1) R 0).heap.get c = some x := hc
    rw [hS 0 (Nat.zero_le _)] at hc'
    show _ ∨ (c < (updF q.S (k + 1) R 0).next ∧ _)
    rw [hS 0 (Nat.zero_le _)]
    rcases h.init.2 c x hc' with h5 | ⟨h5, j, h6, h7, h8, h9⟩
    · exact Or.inl h5
    · exact Or.inr ⟨h5, j, h6, h7, by show updF q.wn i b j = true; rw [updF_ne (hwn j h8)]; exact h8, h9⟩
  · intro j hj oj d hoj hd
    rcases hold j hj with rfl | ⟨h4, h5⟩
    · rw [hoi] at hoj
      cases hoj
      exact hdst d hd
    · exact h.dsts j h4 oj d hoj hd
theorem putA_eq {dst : Option Nat} {v : AV} {tm tm' : Tm} (h : putA nt dst v tm = some tm') : tm' = putD dst v tm ∧ ∀ d, dst = some d → d < nt := by
  unfold putA at h
  split at h
  · injection h with h
    exact ⟨h.symm, fun d hd => by cases hd⟩
  · next d =>
    cases hb : (Nat.blt d nt && Tm.inT d) with
    | false => rw [hb] at h; cases h
    | true =>
      rw [hb] at h
      simp only [cond_true, Option.some.injEq] at h
      rw [Bool.and_eq_true] at hb
      exact ⟨h.symm, fun d' hd' => by cases hd'; exact blt_lt hb.1⟩
theorem phB_cons {i : Nat} {r : List Nat} (h : phB s (i :: r) last = true) : (s.plan.eff i = true → phB s r (some i) = true) ∧ (s.plan.eff i = false → (∀ e, last = some e → (s.anc i).testBit e = true) ∧ phB s r last = true) := by
  unfold phB at h
  refine ⟨fun he => ?_, fun he => ?_⟩
  · rw [show s.effL.contains i = true from he] at h
    exact h
  · rw [show s.effL.contains i = false from he] at h
    simp only [cond_false] at h
    obtain ⟨h1, h2⟩ := and_of h
    refine ⟨fun e h3 => ?_, h2⟩
    rw [h3] at h1
    exact h1
theorem before_of (ok : PlanOK s.plan) {l1 r : List Nat} {i : Nat} {o : Oper} (ho : s.ord = l1 ++ i :: r) (hoi : s.ops[i]? = some o) : ∀ j, (s.anc i).testBit j = true → j ∈ l1 := fun j hj => by
  obtain ⟨h1, h2⟩ := ok.irr i o hoi j hj
  have hm : j ∈ s.ord := (ok.perm j).2 h1
  rw [ho, List.mem_append, List.mem_cons] at hm
  rcases hm with hm | hm | hm
  · exact hm
  · exact absurd hm h2
  · obtain ⟨k1, k2, rfl⟩ := List.append_of_mem hm
    have : (s.anc i).testBit j = false := ok.order l1 i k1 j k2 ho
    rw [hj] at this
    cases this
theorem run_inv (ok : PlanOK s.plan) (kinds : ∀ i, s.plan.eff i = true → s.plan.al i = false) (hB : σ0.next + s.mkL.length < 2 ^ 26) {tm' : Tm} {σ' : St} : ∀ (rest l1 : List Nat) (last : Option Nat) (k : Nat) (pe : List Pe) (q : Vals) (tm : Tm) (σ : St), s.ord = l1 ++ rest → phB s rest last = true → Inv P call nt s tm0 σ0 l1 last k pe q tm σ →
    dRun P call nt s.ops σ0.next (stepsOf s rest) pe tm σ = some (tm', σ') → ∃ last' k' pe' q', Inv P call nt s tm0 σ0 s.ord last' k' pe' q' tm' σ'
  | [], l1, last, k, pe, q, tm, σ, ho, _, h, hr => by
    simp only [stepsOf, dRun, Option.some.injEq, Prod.mk.injEq] at hr
    obtain ⟨rfl, rfl⟩ := hr
    rw [List.append_nil] at ho
    rw [ho]
    exact ⟨_, _, _, _, h⟩
  | i :: r, l1, last, k, pe, q, tm, σ, ho, hph, h, hr => by
    have hlt : i < s.ops.size := (ok.perm i).1 (by show i ∈ s.ord; rw [ho]; simp)
    have hoi : s.ops[i]? = some s.ops[i] := Array.getElem?_eq_getElem hlt
    generalize s.ops[i] = o at hoi
    have hi : i ∉ l1 := fun hm => by
      have := ok.nodup
      rw [show s.plan.ord = l1 ++ i :: r from ho, List.nodup_append] at this
      exact this.2.2 i hm i List.mem_cons_self rfl
    have hbefore := before_of ok ho hoi
    have ho' : s.ord = (l1 ++ [i]) ++ r := by rw [ho]; simp
    obtain ⟨hp1, hp2⟩ := phB_cons hph
    unfold stepsOf at hr
    rw [hoi] at hr
    simp only at hr
    unfold dRun at hr
    simp only at hr
    cases he : s.plan.eff i with
    | true =>
      have hk : kdOf s i = 2 := by unfold kdOf; rw [show s.effL.contains i = true from he]; rfl
      rw [hk, show Nat.beq 2 2 = true from rfl] at hr
      simp only [cond_true] at hr
      split at hr <;> first | (cases hr; done) | skip
      · next hw =>
        split at hr <;> first | (cases hr; done) | skip
        next tm1 hput =>
        obtain ⟨rfl, hd⟩ := putA_eq hput
        split at hr <;> first | (cases hr; done) | skip
        next pe1 hst =>
        exact run_inv ok kinds hB r _ _ _ _ _ _ _ ho' (hp1 he) (h.effect ok kinds hoi hi he hbefore hw (fun _ => rfl) hd (Nat.le_refl _) hst (fun e => by cases e) (fun _ => rfl)) hr
      · next hw =>
        split at hr <;> first | (cases hr; done) | skip
        next v R hx =>
        split at hr <;> first | (cases hr; done) | skip
        next tm1 hput =>
        obtain ⟨rfl, hd⟩ := putA_eq hput
        cases hle : Nat.ble σ.next R.next with
        | false => rw [hle] at hr; cases hr
        | true =>
          rw [hle] at hr
          simp only [cond_true] at hr
          split at hr <;> first | (cases hr; done) | skip
          next pe1 hst =>
          exact run_inv ok kinds hB r _ _ _ _ _ _ _ ho' (hp1 he) (h.effect ok kinds hoi hi he hbefore hw (fun e => by cases e) hd (Nat.le_of_ble_eq_true hle) hst (fun _ => hx) (fun e => by cases e)) hr
    | false =>
      obtain ⟨hlast, hp3⟩ := hp2 he
      have hk2 : Nat.beq (kdOf s i) 2 = false := by
        unfold kdOf
        rw [show s.effL.contains i = false from he]
        cases s.mkL.contains i <;> rfl
      rw [hk2] at hr
      simp only [cond_false] at hr
      split at hr <;> first | (cases hr; done) | skip
      · next hw =>
        split at hr <;> first | (cases hr; done) | skip
        next tm1 hput =>
        obtain ⟨rfl, hd⟩ := putA_eq hput
        exact run_inv ok kinds hB r _ _ _ _ _ _ _ ho' hp3 (h.plain ok hoi hi he hlast (ob := .map [] 0) hw (fun _ => rfl) hd (fun _ _ hx => hx) rfl (fun _ _ hx => Or.inl hx) (fun _ hx => hx) (fun _ e => by cases e) (fun _ e => by cases e)) hr
      · next hw =>
        cases ha : s.plan.al i with
        | true =>
          have hk : kdOf s i = 1 := by unfold kdOf; rw [show s.effL.contains i = false from he, show s.mkL.contains i = true from ha]; rfl
          rw [hk, show Nat.beq 1 1 = true from rfl] at hr
          simp only [cond_true] at hr
          split at hr <;> first | (cases hr; done) | skip
          next v ob hop =>
          split at hr <;> first | (cases hr; done) | skip
          next hnone =>
          split at hr <;> first | (cases hr; done) | skip
          next tm1 hput =>
          obtain ⟨rfl, hd⟩ := putA_eq hput
          have hid := h.ids i
          have hin : σ0.next + s.mkL.idxOf i < 2 ^ 26 := by
            have := List.idxOf_lt_length_of_mem (mem_of.1 (show s.mkL.contains i = true from ha))
            omega
          refine run_inv ok kinds hB r _ _ _ _ _ _ _ ho' hp3 (h.plain ok hoi hi he hlast (ob := ob) (σ' := ⟨Tr.put (some ob) σ.heap (σ0.next + s.mkL.idxOf i), σ.next⟩) hw (fun e => by cases e) hd (fun c x hx => ?_) rfl (fun c x hx => ?_) (fun _ hx => List.mem_cons_of_mem _ hx) (fun e => by rw [ha] at e; cases e) (fun _ _ => ⟨by rw [hid]; exact hop, ?_, ?_⟩)) hr
          · show (Tr.put (some ob) σ.heap (σ0.next + s.mkL.idxOf i)).get c = some x
            rw [Tr.get_put _ _ _ _ hin]
            by_cases hc : c = σ0.next + s.mkL.idxOf i
            · rw [hc, hnone] at hx; cases hx
            · rw [if_neg hc]; exact hx
          · have hx' : (Tr.put (some ob) σ.heap (σ0.next + s.mkL.idxOf i)).get c = some x := hx
            rw [Tr.get_put _ _ _ _ hin] at hx'
            by_cases hc : c = σ0.next + s.mkL.idxOf i
            · exact Or.inr ⟨ha, rfl, by rw [hid]; exact hc⟩
            · rw [if_neg hc] at hx'; exact Or.inl hx'
          · show (Tr.put (some ob) σ.heap (σ0.next + s.mkL.idxOf i)).get (q.id i) = some ob
            rw [Tr.get_put _ _ _ _ hin, if_pos hid]
          · rw [hid]
            exact List.mem_cons_self
        | false =>
          have hk : Nat.beq (kdOf s i) 1 = false := by unfold kdOf; rw [show s.effL.contains i = false from he, show s.mkL.contains i = false from ha]; rfl
          rw [hk] at hr
          simp only [cond_false] at hr
          split at hr
          · next v hop =>
            split at hr <;> first | (cases hr; done) | skip
            next tm1 hput =>
            obtain ⟨rfl, hd⟩ := putA_eq hput
            exact run_inv ok kinds hB r _ _ _ _ _ _ _ ho' hp3 (h.plain ok hoi hi he hlast (ob := .map [] 0) hw (fun e => by cases e) hd (fun _ _ hx => hx) rfl (fun _ _ hx => Or.inl hx) (fun _ hx => hx) (fun _ _ => ⟨by unfold opRd; rw [hop], Or.inl hop⟩) (fun e => by rw [ha] at e; cases e)) hr
          · next hop =>
            split at hr <;> first | (cases hr; done) | skip
            next v hrd =>
            split at hr <;> first | (cases hr; done) | skip
            next tm1 hput =>
            obtain ⟨rfl, hd⟩ := putA_eq hput
            exact run_inv ok kinds hB r _ _ _ _ _ _ _ ho' hp3 (h.plain ok hoi hi he hlast (ob := .map [] 0) hw (fun e => by cases e) hd (fun _ _ hx => hx) rfl (fun _ _ hx => Or.inl hx) (fun _ hx => List.mem_cons_of_mem _ hx) (fun _ _ => ⟨by unfold opRd; rw [hop]; exact hrd, Or.inr List.mem_cons_self⟩) (fun e => by rw [ha] at e; cases e)) hr
theorem inv_facts (ok : PlanOK s.plan) (kinds : ∀ i, s.plan.eff i = true → s.plan.al i = false) (h : Inv P call nt s tm0 σ0 s.ord last k pe q tm σ) : Facts P call nt s.plan q tm0 σ0 ∧ k = s.plan.m := by
  have hin : ∀ (i : Nat) (o : Oper), s.plan.ops[i]? = some o → i ∈ s.ord := fun i o hoi => (ok.perm i).2 (Array.getElem?_eq_some_iff.1 hoi).1
  have hk : k = s.plan.m := by
    rcases Nat.lt_or_ge k s.plan.m with h1 | h1
    · obtain ⟨j, hj, hn⟩ := ok.effsur k h1
      have := (h.cnt j hj).1 ((ok.perm j).2 (ok.efflt j hj).2)
      omega
    · have := h.km
      omega
  refine ⟨⟨?_, fun i o hoi => h.want i (hin i o hoi) o hoi, h.unw, fun i o hoi he ha hw k' hk' => h.rd i (hin i o hoi) o hoi he ha hw k' (by have := hk'.1; omega) hk', fun i o hoi ha hw => ?_, fun i j ha hb _ _ hij => ?_, fun i o hoi he hw => h.fx i (hin i o hoi) o hoi he hw, fun i he hw => h.fx0 i ((ok.perm i).2 (ok.efflt i he).2) he hw, h.init, fun i ha _ => ?_, kinds, fun i o d hoi hd => h.dsts i (hin i o hoi) o d hoi hd⟩, hk⟩
  · intro k1 i k2 e
    exact h.T k1 i k2 e
  · obtain ⟨h1, h2⟩ := h.made i (hin i o hoi) o hoi ha hw
    exact ⟨h1, by rw [h.ids]; omega, fun k' hk' => h2 k' (by have := hk'.1; omega) hk'⟩
  · rw [h.ids, h.ids] at hij
    exact idx_inj (mem_of.1 ha) (mem_of.1 hb) (by omega)
  · rw [h.ids]; omega
end
/-- Regions that draw their order. -/
noncomputable def drawA (P : Program) (sta : Array Oper → Sta) : Draws := fun call nt ops tm σ =>
  bif (sta ops).okB then (bif Tr.inB (σ.next + (sta ops).mkL.length) then dRun P call nt ops σ.next (stepsOf (sta ops) (sta ops).ord) [] tm ⟨σ.heap, σ.next + (sta ops).mkL.length⟩ else none) else none
theorem drawA_sound {P : Program} {sta : Array Oper → Sta} (hsta : ∀ ops, (sta ops).ops = ops) (hmix : P.follows .mixedOrders = true) (hN : NamesOK P) : DrawsSound P (drawA P sta) := by
  intro call nt hcall id ops tm tm' σ σ' E w a h hR ht hn
  unfold drawA at h
  cases hok : (sta ops).okB with
  | false => rw [hok] at h; cases h
  | true =>
    rw [hok] at h
    simp only [cond_true] at h
    cases hB : Tr.inB (σ.next + (sta ops).mkL.length) with
    | false => rw [hB] at h; cases h
    | true =>
      rw [hB] at h
      simp only [cond_true] at h
      obtain ⟨ok, kinds, hph⟩ := Sta.ok hok
      have hops := hsta ops
      generalize sta ops = s at *
      subst hops
      have h0 : Inv P call nt s tm σ [] none 0 [] ⟨fun _ => tm, fun _ => .tup [], fun _ => false, fun i => σ.next + s.mkL.idxOf i, fun _ => .map [] 0, fun _ => ⟨σ.heap, σ.next + s.mkL.length⟩⟩ tm ⟨σ.heap, σ.next + s.mkL.length⟩ := by
        constructor
        · rfl
        · intro k1 i k2 e; simp at e
        · intro i hi; cases hi
        · intro i _; rfl
        · intro i _; rfl
        · intro i _; simp
        · exact Nat.zero_le _
        · exact Or.inl ⟨rfl, rfl⟩
        · rfl
        · intro k' _; exact Nat.le_refl _
        · intro i; rfl
        · intro i hi; cases hi
        · intro i hi; cases hi
        · intro i hi; cases hi
        · intro i hi; cases hi
        · intro i hi; cases hi
        · exact ⟨Nat.le_add_right _ _, fun b o hb => Or.inl hb⟩
        · intro i hi; cases hi
      obtain ⟨last', k', pe', q', hq⟩ := run_inv ok kinds (Tr.inB_lt hB) s.ord [] none 0 [] _ tm _ rfl hph h0 h
      obtain ⟨hf, hk⟩ := inv_facts ok kinds hq
      refine region_any (p := s.plan) hmix hN hcall ok hf hR ht hn ⟨fun b o hb => ?_, ?_⟩ (fun t v htv => ?_)
      · rw [← hk, hq.cur]; exact hb
      · rw [← hk, hq.cur]; exact Nat.le_refl _
      · rw [TD_eq]
        rw [hq.tms] at htv
        exact htv
end Go.Proofs.YtopbojifllnckaaGreatDoor
