/- A region that draws its order: each order runs through. Are two abstract values the same? A region's plan, from its text. -/
import Derived.Test.YtopbojifllnckaaGreatDoorG10
namespace Go.Proofs.YtopbojifllnckaaGreatDoor
section
variable {P : Program} {call : CallF} {nt : Nat} {p : Plan} {q : Vals} {tm0 : Tm} {σ0 : St} {E0 : Env} {w0 : World} {a0 : Act}
theorem num_is (ok : PlanOK p) {D : Nat → Bool} {k : Nat} {E : Env} {a : Act} {w : World} (h : Mid P nt p q tm0 E0 σ0 w0 a0 D k E a w) {i : Nat} (he : p.eff i = true) (hi : D i = false) (hanc : ∀ j, (p.anc i).testBit j = true → D j = true) : p.num i = k := by
  have h1 : k ≤ p.num i := by
    rcases Nat.lt_or_ge (p.num i) k with h1 | h1
    · have := (h.effs i he).2 h1
      rw [hi] at this
      cases this
    · exact h1
  rcases Nat.lt_or_ge k (p.num i) with h2 | h2
  · obtain ⟨j, hj, hn⟩ := ok.effsur k (Nat.lt_trans h2 (ok.efflt i he).1)
    have h3 := hanc j (ok.effs j i hj he (by omega))
    have := (h.effs j hj).1 h3
    omega
  · omega
/-- Behind an effect: the blocks to come. -/
theorem Mid.effect {D : Nat → Bool} {k : Nat} {E : Env} {a : Act} {w : World} (h : Mid P nt p q tm0 E0 σ0 w0 a0 D k E a w) {i : Nat} (hi : D i = false) (hn : p.num i = k) {R : St} (hx : Ext p q i R) {E' : Env} {w' : World} (hs : Step P E (q.S k) w E' R w') :
    Step P E0 σ0 w0 E' (q.S (k + 1)) w' ∧ (∀ j, p.al j = true → q.wn j = true → D j = false → E' (q.id j) = none) := by
  have hun : ∀ j, p.al j = true → q.wn j = true → D j = false → E' (q.id j) = none := fun j h1 h2 h3 => by
    cases hb : E' (q.id j) with
    | none => rfl
    | some r =>
      have h4 := hs.fresh _ r (h.un j h1 h2 h3) hb
      have h5 := (hs.rel.rng _ r hb).1
      have := hx.apart j h1 h2
      rw [hn] at this
      omega
  refine ⟨(h.step.trans hs).ext (by have := hx.next; rwa [hn] at this) (fun b o hb => ?_), hun⟩
  have := hx.get b o (by rw [hn]; exact hb)
  rw [hn] at this
  rcases this with h1 | ⟨h1, j, hj, h2, h3, h4, h5⟩
  · exact Or.inl h1
  · refine Or.inr ⟨?_, h1⟩
    rw [← h4]
    refine hun j h2 h3 ?_
    cases hD : D j with
    | false => rfl
    | true =>
      have := h.closed j hj hD i h5
      rw [hi] at this
      cases this
theorem fx_ok {call : CallF} (hN : NamesOK P) (hcall : CallSound P call) {E : Env} {σ σ' : St} {w : World} {tm : Tm} {a : Act} {o : Oper} {v : AV} (hR : Rel P E σ w) (ht : TmR E tm a.tmps) (h : opFx P call tm σ o = some (v, σ')) {K : Act → World → Prop} {Q : Exit → Act → World → Prop}
    (hK : ∀ E1 c w1, conc E1 v = some c → Step P E σ w E1 σ' w1 → K (a.put o.dst c) w1) : o.wp P a w K Q := by
  unfold Oper.wp
  unfold opFx at h
  split at h
  · next f vs hc =>
    have hfn : ∃ fn, P.funcs[f]? = some fn ∧ fn.body.isSome = true := by
      obtain ⟨dst, op, ty, pos, after, guard⟩ := o
      have hc' := hc
      unfold callA at hc'
      simp only at hc'
      split at hc' <;> first | (cases hc'; done) | skip
      split at hc' <;> first | (cases hc'; done) | skip
      next fx args ts g x y us hfx hus =>
      injection hc' with hc'
      obtain ⟨rfl, rfl⟩ := Prod.mk.inj hc'
      have e1 := aev_conc ht hfx
      have e2 := avs_concs ht hus
      simp only [conc, Option.bind_eq_some_iff, Option.map_eq_some_iff] at e1
      obtain ⟨x', hx', y', hy', -⟩ := e1
      exact (hcall _ _ _ _ _ E w _ h hR (concs_append hx' (concs_append e2 hy'))).1
    obtain ⟨cargs, h1, h2⟩ := call_run (w := w) hN ht hc hfn
    rw [h2, Oper.upon_enter]
    refine (hcall _ _ _ _ _ E w _ h hR h1).2.mono ?_
    rintro e w1 ⟨E1, c, rfl, h3, h4⟩
    exact hK E1 c w1 h3 h4
  · obtain ⟨E1, w1, c, h1, h2, h3⟩ := opE_sound hR ht h
    rcases h1 with h1 | ⟨h1, rfl⟩
    · rw [h1, Oper.upon_value]
      exact hK E1 c w1 h2 h3
    · rw [h1, Oper.upon_skip]
      exact hK E1 undef w1 h2 h3
/-- One operation that may come. -/
theorem Mid.one (hN : NamesOK P) (hcall : CallSound P call) (ok : PlanOK p) (hf : Facts P call nt p q tm0 σ0) {D : Nat → Bool} {k : Nat} {E : Env} {a : Act} {w : World} (h : Mid P nt p q tm0 E0 σ0 w0 a0 D k E a w) {i : Nat} {oi : Oper} (hoi : p.ops[i]? = some oi) (hi : D i = false)
    (hanc : ∀ j, (p.anc i).testBit j = true → D j = true) {Q : Exit → Act → World → Prop} {K : Act → World → Prop}
    (hK : ∀ k' E' a' w', Mid P nt p q tm0 E0 σ0 w0 a0 (fun j => D j || decide (j = i)) k' E' a' w' → K a' w') : wpOp P p.ops Q i K a w := by
  unfold wpOp
  rw [hoi]
  simp only
  obtain ⟨hop, hwa⟩ := aev_names ok hf.hT h.closed hoi hi hanc
  have hal := alike (P := P) hop
  have hwant := hf.want i oi hoi
  rw [hwa] at hwant
  rw [want_sound h.slots hwant]
  have hR := h.step.rel
  cases hw : q.wn i with
  | false =>
    simp only [Bool.false_eq_true, if_false]
    have hV := hf.unw i hw
    have hc : conc E (q.V i) = some undef := by rw [hV]; rfl
    cases he : p.eff i with
    | false => exact hK k E _ w (h.next ok hf hoi hi hanc h.km (Or.inl ⟨he, rfl⟩) h.step (Env.le.refl E) (fun j h1 h2 h3 _ => h.un j h1 h2 h3) hc)
    | true =>
      have hn := num_is ok h he hi hanc
      have hx := hf.fx0 i he hw
      rw [hn] at hx
      obtain ⟨h1, h2⟩ := h.effect hi hn hx (Step.refl hR)
      exact hK (k + 1) E _ w (h.next ok hf hoi hi hanc (by have := (ok.efflt i he).1; omega) (Or.inr ⟨he, hn, rfl⟩) h1 (Env.le.refl E) (fun j h3 h4 h5 _ => h2 j h3 h4 h5) hc)
  | true =>
    simp only [if_true]
    refine Or.inl ?_
    cases he : p.eff i with
    | true =>
      have hn := num_is ok h he hi hanc
      obtain ⟨R, hx, hex⟩ := hf.fx i oi hoi he hw
      rw [hal.fx, hn] at hx
      refine fx_ok hN hcall hR h.slots hx fun E1 c w1 hc hs => ?_
      obtain ⟨h1, h2⟩ := h.effect hi hn hex hs
      exact hK (k + 1) E1 _ w1 (h.next ok hf hoi hi hanc (by have := (ok.efflt i he).1; omega) (Or.inr ⟨he, hn, rfl⟩) h1 hs.le (fun j h3 h4 h5 _ => h2 j h3 h4 h5) hc)
    | false =>
      have hin := inK_of ok h hi hanc
      cases ha : p.al i with
      | true =>
        obtain ⟨h1, h2, h3⟩ := hf.made i oi hoi ha hw
        rw [hal.a] at h1
        obtain ⟨c, obj, e1, e2, e3⟩ := opA_sound (P := P) (w := w) h.slots h1
        have hnone := h.un i ha hw hi
        unfold Oper.wp
        rw [e1, Oper.upon_value]
        refine hK k (E.add (q.id i) (w.heap.size, 0)) _ _ (h.next ok hf hoi hi hanc h.km (Or.inl ⟨he, rfl⟩) (h.step.late (h3 k hin) hnone h2 e2) (Env.add_le hnone) (fun j h4 h5 h6 h7 => ?_) (e3 _ (Env.add_self E (q.id i) (w.heap.size, 0))))
        unfold Env.add
        rw [if_neg (fun e => h7 (hf.ids j i h4 ha h5 hw e))]
        exact h.un j h4 h5 h6
      | false =>
        obtain ⟨σ', h1, h2, h3⟩ := hf.rd i oi hoi he ha hw k hin
        rw [hal.rd] at h3
        have hrun : ∃ c, (execOp a.eval oi).run P w = .ok (.value c) w ∧ conc E (q.V i) = some c := by
          unfold opRd at h3
          split at h3
          · next v hp =>
            injection h3 with h3
            subst h3
            exact opP_sound (P := P) (w := w) h.slots hp
          · exact opR_sound (hR.sub h1 h2) h.slots h3
        obtain ⟨c, e1, e2⟩ := hrun
        unfold Oper.wp
        rw [e1, Oper.upon_value]
        exact hK k E _ w (h.next ok hf hoi hi hanc h.km (Or.inl ⟨he, rfl⟩) h.step (Env.le.refl E) (fun j h4 h5 h6 _ => h.un j h4 h5 h6) e2)
theorem mem_ready' {ops : Array Oper} {listed : Array Bool} {i : Nat} : i ∈ Region.ready .any ops listed ↔ ∃ o, ops[i]? = some o ∧ listed.getD i true = false ∧ ∀ e ∈ o.after.toList, Region.binds .any e = true → listed.getD e.on false = true := by
  unfold Region.ready
  rw [List.mem_filter, List.mem_range]
  constructor
  · rintro ⟨h1, h2⟩
    rw [Bool.and_eq_true] at h2
    obtain ⟨h2, h3⟩ := h2
    refine ⟨ops[i], Array.getElem?_eq_getElem h1, by simpa using h2, fun e he hb => ?_⟩
    rw [Array.getElem?_eq_getElem h1] at h3
    simp only [Option.map_some, Option.getD_some, Array.all_eq_true_iff_forall_mem] at h3
    have := h3 e (by simpa using he)
    rw [hb] at this
    simpa using this
  · rintro ⟨o, h1, h2, h3⟩
    refine ⟨(Array.getElem?_eq_some_iff.1 h1).1, ?_⟩
    rw [Bool.and_eq_true]
    refine ⟨by simp [h2], ?_⟩
    rw [h1]
    simp only [Option.map_some, Option.getD_some, Array.all_eq_true_iff_forall_mem]
    intro e he
    cases hb : Region.binds .any e with
    | false => rfl
    | true => simpa using h3 e (by simpa using he) hb
theorem getD_set {l : Array Bool} {i j : Nat} : (l.setIfInBounds i true).getD j true = (l.getD j true || decide (j = i)) := by
  simp only [Array.getD_eq_getD_getElem?, Array.getElem?_setIfInBounds]
  by_cases h : i = j
  · subst h
    by_cases h2 : i < l.size <;> simp [h2]
  · simp [h, Ne.symm h]
theorem any_all (hN : NamesOK P) (hcall : CallSound P call) (ok : PlanOK p) (hf : Facts P call nt p q tm0 σ0) {Q : Exit → Act → World → Prop}
    (hQ : ∀ E a w, Step P E0 σ0 w0 E (q.S p.m) w → TmR E (TD p q tm0 fun _ => true) a.tmps → a.tmps.size = nt → a.defers = a0.defers → Q .normal a w) :
    ∀ (fuel : Nat) (listed : Array Bool) (k : Nat) (E : Env) (a : Act) (w : World), listed.size = p.ops.size → (p.ord.filter fun j => !listed.getD j true).length ≤ fuel → Mid P nt p q tm0 E0 σ0 w0 a0 (fun j => listed.getD j true) k E a w → wpAny P .any p.ops Q fuel listed a w := by
  have hend : ∀ (listed : Array Bool) (k : Nat) (E : Env) (a : Act) (w : World), (∀ i, i < p.ops.size → listed.getD i true = true) → Mid P nt p q tm0 E0 σ0 w0 a0 (fun j => listed.getD j true) k E a w → Q .normal a w := fun listed k E a w hall h => by
    have hk : k = p.m := by
      rcases Nat.lt_or_ge k p.m with h1 | h1
      · obtain ⟨j, hj, hn⟩ := ok.effsur k h1
        have := (h.effs j hj).1 (hall j (ok.efflt j hj).2)
        omega
      · have := h.km
        omega
    subst hk
    refine hQ E a w h.step (fun t v ht => h.slots t v ?_) h.size h.defers
    rw [← ht, TD_eq, TD_eq]
    exact fold_agree ok p.ord _ _ rfl fun j hj _ => hall j ((ok.perm j).1 hj)
  have hready : ∀ (listed : Array Bool), listed.size = p.ops.size → Region.ready .any p.ops listed = [] → ∀ i, i < p.ops.size → listed.getD i true = true := fun listed hsz hnil => by
    have key : ∀ (n : Nat) (l1 l2 : List Nat) (i : Nat), l1.length = n → p.ord = l1 ++ i :: l2 → listed.getD i true = true := by
      intro n
      induction n using Nat.strongRecOn with
      | ind n ih =>
        intro l1 l2 i hn ho
        cases hl : listed.getD i true with
        | true => rfl
        | false =>
          have hlt : i < p.ops.size := (ok.perm i).1 (by rw [ho]; simp)
          have hoi : p.ops[i]? = some p.ops[i] := Array.getElem?_eq_getElem hlt
          have : i ∈ Region.ready .any p.ops listed := mem_ready'.2 ⟨p.ops[i], hoi, hl, fun e he hb => by
            have h1 := ok.direct i _ hoi e he hb
            obtain ⟨h2, h3⟩ := ok.irr i _ hoi e.on h1
            have hm : e.on ∈ p.ord := (ok.perm e.on).2 h2
            rw [ho, List.mem_append, List.mem_cons] at hm
            rcases hm with hm | hm | hm
            · obtain ⟨k1, k2, rfl⟩ := List.append_of_mem hm
              have h4 := ih k1.length (by subst hn; simp) k1 (k2 ++ i :: l2) e.on rfl (by rw [ho]; simp)
              have h5 : e.on < listed.size := by rw [hsz]; exact h2
              rw [Array.getD_eq_getD_getElem?, Array.getElem?_eq_getElem h5] at h4 ⊢
              exact h4
            · exact absurd hm h3
            · obtain ⟨k1, k2, rfl⟩ := List.append_of_mem hm
              have := ok.order l1 i k1 e.on k2 ho
              rw [h1] at this
              cases this⟩
          rw [hnil] at this
          cases this
    intro i hi
    obtain ⟨l1, l2, h⟩ := List.append_of_mem ((ok.perm i).2 hi)
    exact key l1.length l1 l2 i rfl h
  intro fuel
  induction fuel with
  | zero =>
    intro listed k E a w hsz hfu h
    have hall : ∀ i, i < p.ops.size → listed.getD i true = true := fun i hi => by
      cases hl : listed.getD i true with
      | true => rfl
      | false =>
        have : i ∈ p.ord.filter fun j => !listed.getD j true := List.mem_filter.2 ⟨(ok.perm i).2 hi, by rw [hl]; rfl⟩
        rw [List.length_eq_zero_iff.1 (Nat.le_zero.1 hfu)] at this
        cases this
    refine ⟨?_, hend listed k E a w hall h⟩
    rw [List.eq_nil_iff_forall_not_mem]
    intro i hi
    obtain ⟨o, h1, h2, -⟩ := mem_ready'.1 hi
    rw [hall i (Array.getElem?_eq_some_iff.1 h1).1] at h2
    cases h2
  | succ fuel ih =>
    intro listed k E a w hsz hfu h
    refine ⟨fun hnil => hend listed k E a w (hready listed hsz hnil) h, fun i hi => ?_⟩
    obtain ⟨oi, h1, h2, h3⟩ := mem_ready'.1 hi
    have hanc : ∀ j, (p.anc i).testBit j = true → listed.getD j true = true := fun j hj => by
      obtain ⟨e, he, hb, hd⟩ := ok.just i oi h1 j hj
      have h4 := h3 e he hb
      have h5 : e.on < listed.size := by
        rcases Nat.lt_or_ge e.on listed.size with h6 | h6
        · exact h6
        · rw [Array.getD_eq_getD_getElem?, Array.getElem?_eq_none h6] at h4
          cases h4
      have h6 : listed.getD e.on true = true := by
        rw [Array.getD_eq_getD_getElem?, Array.getElem?_eq_getElem h5] at h4 ⊢
        exact h4
      rcases hd with rfl | hd
      · exact h6
      · exact h.closed e.on (by rw [← hsz]; exact h5) h6 j hd
    refine Mid.one hN hcall ok hf h h1 h2 hanc fun k' E' a' w' hM => ?_
    refine ih (listed.setIfInBounds i true) k' E' a' w' (by simp [hsz]) ?_ ?_
    · have hlt : i < p.ops.size := (Array.getElem?_eq_some_iff.1 h1).1
      have e : (p.ord.filter fun j => !(listed.setIfInBounds i true).getD j true) = (p.ord.filter fun j => !listed.getD j true).filter fun j => !decide (j = i) := by
        rw [List.filter_filter]
        congr 1
        funext j
        rw [getD_set]
        cases listed.getD j true <;> cases decide (j = i) <;> rfl
      rw [e]
      have : ((p.ord.filter fun j => !listed.getD j true).filter fun j => !decide (j = i)).length < (p.ord.filter fun j => !listed.getD j true).length := by
        rw [List.length_filter_lt_length_iff_exists]
        exact ⟨i, List.mem_filter.2 ⟨(ok.perm i).2 hlt, by rw [h2]; rfl⟩, by simp⟩
      omega
    · have e : (fun j => (listed.setIfInBounds i true).getD j true) = fun j => listed.getD j true || decide (j = i) := funext fun j => getD_set
      rw [e]
      exact hM
/-- A region that draws its order, from what is known of its operations. -/
theorem region_any (hmix : P.follows .mixedOrders = true) (hN : NamesOK P) (hcall : CallSound P call) (ok : PlanOK p) (hf : Facts P call nt p q tm0 σ0) {id : Nat} {E : Env} {w : World} {a : Act} (hR : Rel P E σ0 w) (ht : TmR E tm0 a.tmps) (hn : a.tmps.size = nt) {tm' : Tm} {σ' : St}
    (hσ : (∀ b o, σ'.heap.get b = some o → (q.S p.m).heap.get b = some o) ∧ (q.S p.m).next ≤ σ'.next) (htm : ∀ t v, tm'.get t = some v → (TD p q tm0 fun _ => true).get t = some v) :
    (Code.region id p.ops true).wp P (After P nt E σ0 w a .norm tm' σ') a w := by
  refine wp_region_any hmix ?_
  have hd := Step.drewN hR 1
  have hnone : ∀ j, p.al j = true → q.wn j = true → E (q.id j) = none := fun j h1 h2 => by
    cases hb : E (q.id j) with
    | none => rfl
    | some r =>
      have h3 := (hR.rng _ r hb).1
      rcases Nat.lt_or_ge j p.ops.size with h4 | h4
      · have := (hf.made j _ (Array.getElem?_eq_getElem h4) h1 h2).2.1
        omega
      · exact absurd h3 (Nat.not_lt.2 (hf.far j h1 h2))
  have hrep : ∀ i, i < p.ops.size → (Array.replicate p.ops.size false).getD i true = false := fun i hi => by
    rw [Array.getD_eq_getD_getElem?, Array.getElem?_replicate, if_pos hi]
    rfl
  have hM : Mid P nt p q tm0 E σ0 w a (fun j => (Array.replicate p.ops.size false).getD j true) 0 E a (w.drewN 1) := by
    constructor
    · intro i hi hD
      simp only at hD
      rw [hrep i hi] at hD
      cases hD
    · exact Nat.zero_le _
    · intro i he
      rw [hrep i (ok.efflt i he).2]
      simp
    · refine hd.ext hf.init.1 fun b o hb => ?_
      rcases hf.init.2 b o hb with h1 | ⟨h1, j, hj, h2, h3, h4⟩
      · exact Or.inl h1
      · exact Or.inr ⟨by rw [← h4]; exact hnone j h2 h3, h1⟩
    · intro t v h
      have e : (TD p q tm0 fun j => (Array.replicate p.ops.size false).getD j true).get t = tm0.get t := by
        rw [TD_eq]
        refine fold_none ok p.ord tm0 fun j hj hD => ?_
        rw [hrep j ((ok.perm j).1 hj)] at hD
        cases hD
      exact ht t v (by rw [← e]; exact h)
    · exact hn
    · rfl
    · exact fun i h1 h2 _ => hnone i h1 h2
  refine any_all (E0 := E) (w0 := w) (a0 := a) hN hcall ok hf (Q := After P nt E σ0 w a .norm tm' σ') ?_ p.ops.size (Array.replicate p.ops.size false) 0 E a _ (by simp) (Nat.le_trans (List.length_filter_le _ _) ok.len) hM
  intro E1 a1 w1 h1 h2 h3 h4
  exact ⟨rfl, h3, h4, E1, h1.ext hσ.2 fun b o hb => Or.inl (hσ.1 b o hb), fun t v h => h2 t v (htm t v h)⟩
end
end Go.Proofs.YtopbojifllnckaaGreatDoor
namespace Go.Proofs.YtopbojifllnckaaGreatDoor
def pEq : Option (Nat × Nat) → Option (Nat × Nat) → Bool
  | none, none => true
  | some (a, b), some (c, d) => bif Nat.beq a c then Nat.beq b d else false
  | _, _ => false
theorem pEq_eq {x y : Option (Nat × Nat)} (h : pEq x y = true) : x = y := by
  cases x with
  | none => cases y with
    | none => rfl
    | some y => cases h
  | some x => cases y with
    | none => cases h
    | some y =>
      obtain ⟨a, b⟩ := x
      obtain ⟨c, d⟩ := y
      simp only [pEq] at h
      cases h1 : Nat.beq a c with
      | false => rw [h1] at h; cases h
      | true =>
        rw [h1] at h
        rw [beq_eq h1, beq_eq (show Nat.beq b d = true from h)]
def bEq : Bool → Bool → Bool
  | true, true => true
  | false, false => true
  | _, _ => false
theorem bEq_eq {x y : Bool} (h : bEq x y = true) : x = y := by cases x <;> cases y <;> first | rfl | cases h
def kEq (a b : IntKind) : Bool := decide (a = b)
def iEq (a b : Int) : Bool := decide (a = b)
theorem and_of {a b : Bool} (h : (bif a then b else false) = true) : a = true ∧ b = true := by cases a <;> simp_all
def sEq : List UInt8 → List UInt8 → Bool
  | [], [] => true
  | a :: x, b :: y => bif Nat.beq a.toNat b.toNat then sEq x y else false
  | _, _ => false
theorem sEq_eq : ∀ {x y : List UInt8}, sEq x y = true → x = y
  | [], [], _ => rfl
  | [], _ :: _, h => by cases h
  | _ :: _, [], h => by cases h
  | a :: x, b :: y, h => by
    obtain ⟨h1, h2⟩ := and_of h
    rw [UInt8.toNat_inj.1 (beq_eq h1), sEq_eq h2]
def oN : Option Nat → Option Nat → Bool
  | none, none => true
  | some a, some b => Nat.beq a b
  | _, _ => false
theorem oN_eq {x y : Option Nat} (h : oN x y = true) : x = y := by
  cases x <;> cases y <;> first | rfl | (cases h; done) | (rw [beq_eq (show Nat.beq _ _ = true from h)])
mutual
def vEq : AV → AV → Bool
  | .bool a, .bool b => bEq a b
  | .int k n, .int k' n' => bif kEq k k' then iEq n n' else false
  | .str l, .str l' => sEq l l'
  | .ptr p, .ptr p' => pEq p p'
  | .slc p n c e, .slc p' n' c' e' => bif pEq p p' then (bif Nat.beq n n' then (bif Nat.beq c c' then bEq e e' else false) else false) else false
  | .send b o u e, .send b' o' u' e' => bif Nat.beq b b' then (bif Nat.beq o o' then (bif Nat.beq u u' then bEq e e' else false) else false) else false
  | .map r, .map r' => oN r r'
  | .func f a c, .func f' a' c' => bif Nat.beq f f' then (bif vsEq a a' then vsEq c c' else false) else false
  | .nilFunc, .nilFunc => true
  | .iface t v, .iface t' v' => bif Nat.beq t t' then vEq v v' else false
  | .nilIface, .nilIface => true
  | .agg a, .agg b => vsEq a b
  | .tup a, .tup b => vsEq a b
  | _, _ => false
def vsEq : List AV → List AV → Bool
  | [], [] => true
  | a :: x, b :: y => bif vEq a b then vsEq x y else false
  | _, _ => false
end
mutual
theorem vEq_eq : ∀ (x y : AV), vEq x y = true → x = y
  | .bool a, y, h => by
    cases y <;> first | (cases h; done) | skip
    rw [bEq_eq h]
  | .int k n, y, h => by
    cases y <;> first | (cases h; done) | skip
    obtain ⟨h1, h2⟩ := and_of h
    rw [of_decide_eq_true h1, of_decide_eq_true h2]
  | .str l, y, h => by
    cases y <;> first | (cases h; done) | skip
    rw [sEq_eq h]
  | .ptr p, y, h => by
    cases y <;> first | (cases h; done) | skip
    rw [pEq_eq h]
  | .slc p n c e, y, h => by
    cases y <;> first | (cases h; done) | skip
    obtain ⟨h1, h⟩ := and_of h
    obtain ⟨h2, h⟩ := and_of h
    obtain ⟨h3, h⟩ := and_of h
    rw [pEq_eq h1, beq_eq h2, beq_eq h3, bEq_eq h]
  | .send b o u e, y, h => by
    cases y <;> first | (cases h; done) | skip
    obtain ⟨h1, h⟩ := and_of h
    obtain ⟨h2, h⟩ := and_of h
    obtain ⟨h3, h⟩ := and_of h
    rw [beq_eq h1, beq_eq h2, beq_eq h3, bEq_eq h]
  | .map r, y, h => by
    cases y <;> first | (cases h; done) | skip
    rw [oN_eq h]
  | .func f a c, y, h => by
    cases y <;> first | (cases h; done) | skip
    simp only [vEq] at h
    obtain ⟨h1, h⟩ := and_of h
    obtain ⟨h2, h⟩ := and_of h
    rw [beq_eq h1, vsEq_eq a _ h2, vsEq_eq c _ h]
  | .nilFunc, y, h => by
    cases y <;> first | (cases h; done) | rfl
  | .iface t v, y, h => by
    cases y <;> first | (cases h; done) | skip
    simp only [vEq] at h
    obtain ⟨h1, h⟩ := and_of h
    rw [beq_eq h1, vEq_eq v _ h]
  | .nilIface, y, h => by
    cases y <;> first | (cases h; done) | rfl
  | .agg a, y, h => by
    cases y <;> first | (cases h; done) | skip
    simp only [vEq] at h
    rw [vsEq_eq a _ h]
  | .tup a, y, h => by
    cases y <;> first | (cases h; done) | skip
    simp only [vEq] at h
    rw [vsEq_eq a _ h]
theorem vsEq_eq : ∀ (x y : List AV), vsEq x y = true → x = y
  | [], y, h => by
    cases y <;> first | (cases h; done) | rfl
  | a :: x, y, h => by
    cases y <;> first | (cases h; done) | skip
    simp only [vsEq] at h
    obtain ⟨h1, h⟩ := and_of h
    rw [vEq_eq a _ h1, vsEq_eq x _ h]
end
def ovEq : Option AV → Option AV → Bool
  | none, none => true
  | some a, some b => vEq a b
  | _, _ => false
theorem ovEq_eq {x y : Option AV} (h : ovEq x y = true) : x = y := by
  cases x <;> cases y <;> first | rfl | (cases h; done) | (rw [vEq_eq _ _ h])
def tEq : Tr AV → Tr AV → Bool
  | .e, .e => true
  | .n l v r, .n l' v' r' => bif tEq l l' then (bif ovEq v v' then tEq r r' else false) else false
  | _, _ => false
theorem tEq_eq : ∀ {x y : Tr AV}, tEq x y = true → x = y
  | .e, .e, _ => rfl
  | .e, .n _ _ _, h => by cases h
  | .n _ _ _, .e, h => by cases h
  | .n l v r, .n l' v' r', h => by
    simp only [tEq] at h
    obtain ⟨h1, h⟩ := and_of h
    obtain ⟨h2, h⟩ := and_of h
    rw [tEq_eq h1, ovEq_eq h2, tEq_eq h]
def esEq : List (AV × AV × Nat) → List (AV × AV × Nat) → Bool
  | [], [] => true
  | (k, v, n) :: x, (k', v', n') :: y => bif vEq k k' then (bif vEq v v' then (bif Nat.beq n n' then esEq x y else false) else false) else false
  | _, _ => false
theorem esEq_eq : ∀ {x y : List (AV × AV × Nat)}, esEq x y = true → x = y
  | [], [], _ => rfl
  | [], _ :: _, h => by cases h
  | _ :: _, [], h => by cases h
  | (k, v, n) :: x, (k', v', n') :: y, h => by
    simp only [esEq] at h
    obtain ⟨h1, h⟩ := and_of h
    obtain ⟨h2, h⟩ := and_of h
    obtain ⟨h3, h⟩ := and_of h
    rw [vEq_eq _ _ h1, vEq_eq _ _ h2, beq_eq h3, esEq_eq h]
/-- The same block? -/
def aoEq : AO → AO → Bool
  | .cells n t e d l, .cells n' t' e' d' l' => bif Nat.beq n n' then (bif tEq t t' then (bif Nat.beq e e' then (bif ovEq d d' then bEq l l' else false) else false) else false) else false
  | .map es c, .map es' c' => bif esEq es es' then Nat.beq c c' else false
  | _, _ => false
theorem aoEq_eq {x y : AO} (h : aoEq x y = true) : x = y := by
  cases x <;> cases y <;> first | (cases h; done) | skip
  · obtain ⟨h1, h⟩ := and_of h
    obtain ⟨h2, h⟩ := and_of h
    obtain ⟨h3, h⟩ := and_of h
    obtain ⟨h4, h⟩ := and_of h
    rw [beq_eq h1, tEq_eq h2, beq_eq h3, ovEq_eq h4, bEq_eq h]
  · obtain ⟨h1, h⟩ := and_of h
    rw [esEq_eq h1, beq_eq h]
end Go.Proofs.YtopbojifllnckaaGreatDoor
namespace Go.Proofs.YtopbojifllnckaaGreatDoor
def pairsB (r : Nat → Nat → Bool) : List Nat → Bool
  | [] => true
  | a :: l => bif l.all (r a) then pairsB r l else false
theorem pairsB_ok {r : Nat → Nat → Bool} : ∀ {l : List Nat}, pairsB r l = true → ∀ {l1 l2 l3 : List Nat} {i j : Nat}, l = l1 ++ i :: (l2 ++ j :: l3) → r i j = true
  | [], _, l1, _, _, _, _, e => by simp at e
  | a :: l, h, l1, l2, l3, i, j, e => by
    obtain ⟨h1, h2⟩ := and_of h
    cases l1 with
    | nil =>
      simp only [List.nil_append, List.cons.injEq] at e
      obtain ⟨rfl, rfl⟩ := e
      rw [List.all_eq_true] at h1
      exact h1 j (by simp)
    | cons b l1 =>
      simp only [List.cons_append, List.cons.injEq] at e
      exact pairsB_ok h2 e.2
theorem pairsB_nodup : ∀ {l : List Nat}, pairsB (fun i j => !Nat.beq i j) l = true → l.Nodup
  | [], _ => List.nodup_nil
  | a :: l, h => by
    obtain ⟨h1, h2⟩ := and_of h
    rw [List.nodup_cons]
    refine ⟨fun hm => ?_, pairsB_nodup h2⟩
    rw [List.all_eq_true] at h1
    have := h1 a hm
    simp at this
theorem idx_get : ∀ {l : List Nat}, l.Nodup → ∀ {n : Nat} (h : n < l.length), l.idxOf l[n] = n
  | [], _, n, h => absurd h (Nat.not_lt_zero _)
  | a :: l, hd, n, h => by
    rw [List.nodup_cons] at hd
    cases n with
    | zero => simp
    | succ n =>
      have hl : n < l.length := by simpa using h
      have hne : a ≠ l[n] := fun e => hd.1 (by rw [e]; exact List.getElem_mem hl)
      rw [List.getElem_cons_succ, List.idxOf_cons]
      have : (a == l[n]) = false := by simpa using hne
      rw [this]
      simp [idx_get hd.2 hl]
theorem idx_inj {l : List Nat} {i j : Nat} (hi : i ∈ l) (hj : j ∈ l) (h : l.idxOf i = l.idxOf j) : i = j := by
  have h1 := List.idxOf_lt_length_of_mem hi
  have h2 := List.idxOf_lt_length_of_mem hj
  have e1 := List.getElem_idxOf h1
  have e2 := List.getElem_idxOf h2
  rw [← e1, ← e2]
  congr 1
/-- What is known of a region from its text. -/
structure Sta where
  ops : Array Oper
  tab : List Nat
  effL : List Nat
  mkL : List Nat
  ord : List Nat
def Sta.anc (s : Sta) (i : Nat) : Nat := s.tab.getD i 0
def Sta.plan (s : Sta) : Plan := ⟨s.ops, s.ord, s.anc, fun i => s.effL.contains i, fun i => s.mkL.contains i, fun i => s.effL.idxOf i, s.effL.length⟩
def ancOf (tab : List Nat) : List Edge → Nat
  | [] => 0
  | e :: r => bif Region.binds .any e then ((1 <<< e.on) ||| tab.getD e.on 0) ||| ancOf tab r else ancOf tab r
theorem ancOf_bit {tab : List Nat} {j : Nat} : ∀ {l : List Edge}, (ancOf tab l).testBit j = true ↔ ∃ e ∈ l, Region.binds .any e = true ∧ (e.on = j ∨ (tab.getD e.on 0).testBit j = true)
  | [] => by simp [ancOf]
  | e :: r => by
    unfold ancOf
    cases hb : Region.binds .any e with
    | false =>
      simp only [cond_false]
      rw [ancOf_bit]
      simp [hb]
    | true =>
      simp only [cond_true]
      rw [Nat.testBit_or, Nat.testBit_or, Bool.or_eq_true, Bool.or_eq_true, ancOf_bit]
      have : (1 <<< e.on).testBit j = true ↔ e.on = j := by
        rw [Nat.one_shiftLeft, Nat.testBit_two_pow]
        simp
      rw [this]
      simp [hb]
def slotB (ops : Array Oper) (tab : List Nat) (i j : Nat) : Bool :=
  match ops[i]?, ops[j]? with
  | some oi, some oj => bif (tab.getD j 0).testBit i then true else
      (bif (match oi.dst with | some d => !((namesOf ops oj).any fun t => Nat.beq d t) | none => true) then (match oj.dst with | some d => !((namesOf ops oi).any fun t => Nat.beq d t) | none => true) else false)
  | _, _ => false
def oneB (ops : Array Oper) (tab : List Nat) (i : Nat) : Bool :=
  match ops[i]? with
  | some o => bif Nat.beq (tab.getD i 0) (ancOf tab o.after.toList) then (bif Nat.blt (tab.getD i 0) (2 ^ i) then (match o.dst with | some d => Tm.inT d | none => true) else false) else false
  | none => false
/-- Behind which effect an operation comes. -/
def phB (s : Sta) : List Nat → Option Nat → Bool
  | [], _ => true
  | i :: r, last => bif s.effL.contains i then phB s r (some i) else (bif (match last with | some e => (s.anc i).testBit e | none => true) then phB s r last else false)
def Sta.okB (s : Sta) : Bool :=
  bif s.ord.all fun i => Nat.blt i s.ops.size then
  (bif (List.range s.ops.size).all fun i => s.ord.contains i then
  (bif pairsB (fun i j => !Nat.beq i j) s.ord then
  (bif Nat.ble s.ord.length s.ops.size then
  (bif (List.range s.ops.size).all (oneB s.ops s.tab) then
  (bif pairsB (fun i j => !(s.anc i).testBit j) s.ord then
  (bif pairsB (slotB s.ops s.tab) s.ord then
  (bif s.effL.all fun i => s.effL.all fun j => bif Nat.blt (s.effL.idxOf i) (s.effL.idxOf j) then (s.anc j).testBit i else true then
  (bif s.effL.all fun i => Nat.blt i s.ops.size then
  (bif pairsB (fun i j => !Nat.beq i j) s.effL then
  (bif s.effL.all fun i => !s.mkL.contains i then phB s s.ord none
  else false) else false) else false) else false) else false) else false) else false) else false) else false) else false) else false
theorem mem_of {l : List Nat} {i : Nat} : l.contains i = true ↔ i ∈ l := by simp
theorem any_beq {l : List Nat} {d : Nat} : (l.any fun t => Nat.beq d t) = true ↔ d ∈ l := by
  rw [List.any_eq_true]
  constructor
  · rintro ⟨x, h1, h2⟩
    rw [beq_eq h2]; exact h1
  · intro h
    exact ⟨d, h, by simp⟩
theorem Sta.ok {s : Sta} (h : s.okB = true) : PlanOK s.plan ∧ (∀ i, s.plan.eff i = true → s.plan.al i = false) ∧ phB s s.ord none = true := by
  unfold Sta.okB at h
  obtain ⟨c1, h⟩ := and_of h
  obtain ⟨c2, h⟩ := and_of h
  obtain ⟨c3, h⟩ := and_of h
  obtain ⟨c4, h⟩ := and_of h
  obtain ⟨c5, h⟩ := and_of h
  obtain ⟨c6, h⟩ := and_of h
  obtain ⟨c7, h⟩ := and_of h
  obtain ⟨c8, h⟩ := and_of h
  obtain ⟨c9, h⟩ := and_of h
  obtain ⟨c10, h⟩ := and_of h
  obtain ⟨c11, c12⟩ := and_of h
  rw [List.all_eq_true] at c1 c2 c5 c8 c9 c11
  have one : ∀ (i : Nat) (o : Oper), s.ops[i]? = some o → s.anc i = ancOf s.tab o.after.toList ∧ s.anc i < 2 ^ i ∧ ∀ d, o.dst = some d → d < 256 := fun i o ho => by
    have h1 := c5 i (List.mem_range.2 (Array.getElem?_eq_some_iff.1 ho).1)
    unfold oneB at h1
    rw [ho] at h1
    simp only at h1
    obtain ⟨h2, h1⟩ := and_of h1
    obtain ⟨h3, h1⟩ := and_of h1
    refine ⟨beq_eq h2, by have e : (Nat.blt (s.tab.getD i 0) (2 ^ i) = true) = (s.tab.getD i 0 < 2 ^ i) := Nat.blt_eq; exact e.mp h3, fun d hd => ?_⟩
    rw [hd] at h1
    exact Tm.inT_lt h1
  have effmem : ∀ i, s.plan.eff i = true ↔ i ∈ s.effL := fun i => mem_of
  have nd := pairsB_nodup c10
  refine ⟨⟨fun i => ⟨fun hm => ?_, fun hl => mem_of.1 (c2 i (List.mem_range.2 hl))⟩, pairsB_nodup c3, fun i o ho j hj => ?_, fun i o ho e he hb => ?_, fun l1 i l2 j l3 ho => ?_, fun l1 i l2 j l3 oi oj ho h1 h2 => ?_, fun i j hi hj hn => ?_, fun i hi => ⟨List.idxOf_lt_length_of_mem ((effmem i).1 hi), ?_⟩, fun i o ho j hj => ?_, fun n hn => ?_, ?_, fun i j hi hj hn => idx_inj ((effmem i).1 hi) ((effmem j).1 hj) hn, fun i o d ho hd => (one i o ho).2.2 d hd⟩, fun i hi => ?_, c12⟩
  · have := c1 i hm
    have e : (Nat.blt i s.ops.size = true) = (i < s.ops.size) := Nat.blt_eq
    exact e.mp this
  · have : (ancOf s.tab o.after.toList).testBit j = true := by rw [← (one i o ho).1]; exact hj
    exact ancOf_bit.1 this
  · show (s.anc i).testBit e.on = true
    rw [(one i o ho).1]
    exact ancOf_bit.2 ⟨e, he, hb, Or.inl rfl⟩
  · have : (!(s.anc i).testBit j) = true := pairsB_ok c6 ho
    show (s.anc i).testBit j = false
    simpa using this
  · have h3 := pairsB_ok c7 ho
    unfold slotB at h3
    rw [show s.ops[i]? = some oi from h1, show s.ops[j]? = some oj from h2] at h3
    simp only at h3
    cases hb : (s.tab.getD j 0).testBit i with
    | true => exact ⟨fun _ _ _ => hb, fun _ _ _ => hb⟩
    | false =>
      rw [hb] at h3
      simp only [cond_false] at h3
      obtain ⟨h4, h5⟩ := and_of h3
      refine ⟨fun d hd hm => ?_, fun d hd hm => ?_⟩
      · rw [hd] at h4
        simp only at h4
        rw [any_beq.2 (show d ∈ namesOf s.ops oj from hm)] at h4
        cases h4
      · rw [hd] at h5
        simp only at h5
        rw [any_beq.2 (show d ∈ namesOf s.ops oi from hm)] at h5
        cases h5
  · have h1 := c8 i ((effmem i).1 hi)
    rw [List.all_eq_true] at h1
    have h2 := h1 j ((effmem j).1 hj)
    have e : (Nat.blt (s.effL.idxOf i) (s.effL.idxOf j) = true) = (s.effL.idxOf i < s.effL.idxOf j) := Nat.blt_eq
    rw [e.mpr hn] at h2
    exact h2
  · have := c9 i ((effmem i).1 hi)
    have e : (Nat.blt i s.ops.size = true) = (i < s.ops.size) := Nat.blt_eq
    exact e.mp this
  · have hlt := (one i o ho).2.1
    have hji : j < i := by
      rcases Nat.lt_or_ge j i with h1 | h1
      · exact h1
      · have h2 : s.anc i < 2 ^ j := Nat.lt_of_lt_of_le hlt (Nat.pow_le_pow_right (by omega) h1)
        rw [show s.plan.anc i = s.anc i from rfl, Nat.testBit_lt_two_pow h2] at hj
        cases hj
    have hi : i < s.ops.size := (Array.getElem?_eq_some_iff.1 ho).1
    exact ⟨Nat.lt_trans hji hi, by omega⟩
  · have hn' : n < s.effL.length := hn
    exact ⟨s.effL[n], (effmem _).2 (List.getElem_mem hn'), idx_get nd hn'⟩
  · exact Nat.le_of_ble_eq_true c4
  · have := c11 i ((effmem i).1 hi)
    show s.mkL.contains i = false
    cases hm : s.mkL.contains i with
    | false => rfl
    | true => rw [hm] at this; cases this
end Go.Proofs.YtopbojifllnckaaGreatDoor
