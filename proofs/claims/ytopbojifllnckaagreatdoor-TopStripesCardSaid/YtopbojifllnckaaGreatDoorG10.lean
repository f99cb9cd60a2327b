/- A region that draws its order: whatever the order, the same values. What an operation gives hangs on its operands alone. A region that draws its order: the theorem. -/
import Derived.Orders
import Derived.Test.YtopbojifllnckaaGreatDoorG09
namespace Go.Proofs.YtopbojifllnckaaGreatDoor
section
variable {P : Program} {E E' E0 : Env} {σ σ' σ0 : St} {w w' w0 : World}
/-- Fewer blocks live. -/
theorem Rel.sub (h : Rel P E σ w) (hs : ∀ b o, σ'.heap.get b = some o → σ.heap.get b = some o) (hn : σ.next ≤ σ'.next) : Rel P E σ' w :=
  ⟨fun b o hb => h.obj b o (hs b o hb), fun b b' o o' r r' hb hb' => h.inj b b' o o' r r' (hs b o hb) (hs b' o' hb'), fun b r hr => ⟨Nat.lt_of_lt_of_le (h.rng b r hr).1 hn, (h.rng b r hr).2⟩, fun b o hb => Nat.lt_of_lt_of_le (h.live b o (hs b o hb)) hn⟩
/-- Blocks live that do not stand yet. -/
theorem Step.ext (h : Step P E0 σ0 w0 E σ w) (hn : σ.next ≤ σ'.next) (hs : ∀ b o, σ'.heap.get b = some o → σ.heap.get b = some o ∨ (E b = none ∧ b < σ'.next)) : Step P E0 σ0 w0 E σ' w := by
  have key : ∀ b o r, σ'.heap.get b = some o → E b = some r → σ.heap.get b = some o := fun b o r hb hr => by
    rcases hs b o hb with h1 | ⟨h1, -⟩
    · exact h1
    · rw [h1] at hr; cases hr
  refine ⟨h.le, ⟨fun b o hb r hr => h.rel.obj b o (key b o r hb hr) r hr, fun b b' o o' r r' hb hb' hr hr' => h.rel.inj b b' o o' r r' (key b o r hb hr) (key b' o' r' hb' hr') hr hr', fun b r hr => ⟨Nat.lt_of_lt_of_le (h.rel.rng b r hr).1 hn, (h.rel.rng b r hr).2⟩, fun b o hb => ?_⟩,
    h.os, h.tape, h.output, h.size, h.frame, fun c hc => ?_, Nat.le_trans h.next hn, h.fresh⟩
  · rcases hs b o hb with h1 | ⟨-, h1⟩
    · exact Nat.lt_of_lt_of_le (h.rel.live b o h1) hn
    · exact h1
  · obtain ⟨b, o, r, hb, hr, e⟩ := hc
    exact h.own c ⟨b, o, r, key b o r hb hr, hr, e⟩
/-- A block that lived already comes to stand. -/
theorem Step.late (h : Step P E0 σ0 w0 E σ w) {b : Nat} {o : AO} {ob : Obj} (hb : σ.heap.get b = some o) (hn : E b = none) (h0 : σ0.next ≤ b) (ho : ObjOK P E 0 o ob) : Step P E0 σ0 w0 (E.add b (w.heap.size, 0)) σ (w.alloc ob) := by
  have hle := Env.add_le (r := (w.heap.size, 0)) hn
  have hk : ∀ c, c < w.heap.size → (w.alloc ob).heap[c]? = w.heap[c]? := fun c hc => Go.RowKit.Below.heap_alloc w ob c hc
  have hself := Env.add_self E b (w.heap.size, 0)
  have hold : ∀ b1 r, b1 ≠ b → (E.add b (w.heap.size, 0)) b1 = some r → E b1 = some r := fun b1 r hb hr => by
    unfold Env.add at hr; rwa [if_neg hb] at hr
  refine ⟨h.le.trans hle, ⟨fun b1 o1 hb1 r hr => ?_, fun b1 b2 o1 o2 r1 r2 hb1 hb2 hr1 hr2 hrr => ?_, fun b1 r hr => ?_, h.rel.live⟩, h.os, h.tape, h.output, Nat.le_trans h.size (by simp), fun c hc hn => ?_, fun c hc => ?_, h.next, fun b1 r e1 e2 => ?_⟩
  · by_cases hbb : b1 = b
    · subst hbb
      rw [hself] at hr
      cases hr
      rw [hb] at hb1
      cases hb1
      exact ⟨ob, heap_alloc_new w ob, ho.mono hle⟩
    · have hr' := hold b1 r hbb hr
      obtain ⟨ob1, h1, h2⟩ := h.rel.obj b1 o1 hb1 r hr'
      exact ⟨ob1, (hk _ (h.rel.rng b1 r hr').2).trans h1, h2.mono hle⟩
  · by_cases h1 : b1 = b
    · by_cases h2 : b2 = b
      · rw [h1, h2]
      · subst h1
        rw [hself] at hr1
        cases hr1
        have := (h.rel.rng b2 r2 (hold b2 r2 h2 hr2)).2
        simp only at hrr
        omega
    · by_cases h2 : b2 = b
      · subst h2
        rw [hself] at hr2
        cases hr2
        have := (h.rel.rng b1 r1 (hold b1 r1 h1 hr1)).2
        simp only at hrr
        omega
      · exact h.rel.inj b1 b2 o1 o2 r1 r2 hb1 hb2 (hold b1 r1 h1 hr1) (hold b2 r2 h2 hr2) hrr
  · by_cases hbb : b1 = b
    · subst hbb
      rw [hself] at hr
      cases hr
      exact ⟨h.rel.live b1 o hb, by simp⟩
    · have := h.rel.rng b1 r (hold b1 r hbb hr)
      exact ⟨this.1, by simp; omega⟩
  · exact (hk c (Nat.lt_of_lt_of_le hc h.size)).trans (h.frame c hc hn)
  · obtain ⟨b1, o1, r, hb1, hr, rfl⟩ := hc
    by_cases hbb : b1 = b
    · subst hbb
      rw [hself] at hr
      cases hr
      exact Or.inr h.size
    · exact h.own r.1 ⟨b1, o1, r, hb1, hold b1 r hbb hr, rfl⟩
  · by_cases hbb : b1 = b
    · rw [hbb]; exact h0
    · exact h.fresh b1 r e1 (hold b1 r hbb e2)
end

/-- What is known of a region's operations, each by its number. -/
structure Plan where
  ops : Array Oper
  /-- an order that does -/
  ord : List Nat
  /-- what must be ahead, as bits -/
  anc : Nat → Nat
  eff : Nat → Bool
  al : Nat → Bool
  num : Nat → Nat
  m : Nat
structure Vals where
  T : Nat → Tm
  V : Nat → AV
  wn : Nat → Bool
  id : Nat → Nat
  ob : Nat → AO
  S : Nat → St
def slotsOf (x : List Operand) : List Nat := x.filterMap fun | .tmp t => some t | _ => none
/-- Slots whose content matters to an operation. -/
def namesOf (ops : Array Oper) (o : Oper) : List Nat :=
  o.dst.toList ++ slotsOf o.op.operands.toList ++ (match o.guard with
    | some (j, _) => ((ops[j]?).bind (·.dst)).toList
    | none => [])
noncomputable def putD (dst : Option Nat) (v : AV) (tm : Tm) : Tm := match dst with
  | some d => Tm.put v tm d
  | none => tm
noncomputable def TD (p : Plan) (q : Vals) (tm0 : Tm) (D : Nat → Bool) : Tm :=
  p.ord.foldl (fun tm i => if D i then putD ((p.ops[i]?).bind (·.dst)) (q.V i) tm else tm) tm0
/-- At which numbers of effects an operation may come. -/
def inK (p : Plan) (i k : Nat) : Prop := k ≤ p.m ∧ (∀ j, p.eff j = true → (p.anc i).testBit j = true → p.num j < k) ∧ (∀ j, p.eff j = true → (p.anc j).testBit i = true → k ≤ p.num j)
structure PlanOK (p : Plan) : Prop where
  perm : ∀ i, i ∈ p.ord ↔ i < p.ops.size
  nodup : p.ord.Nodup
  just : ∀ (i : Nat) (o : Oper), p.ops[i]? = some o → ∀ j, (p.anc i).testBit j = true → ∃ e ∈ o.after.toList, Region.binds .any e = true ∧ (e.on = j ∨ (p.anc e.on).testBit j = true)
  direct : ∀ (i : Nat) (o : Oper), p.ops[i]? = some o → ∀ e ∈ o.after.toList, Region.binds .any e = true → (p.anc i).testBit e.on = true
  order : ∀ l1 i l2 j l3, p.ord = l1 ++ i :: (l2 ++ j :: l3) → (p.anc i).testBit j = false
  slots : ∀ l1 i l2 j l3 oi oj, p.ord = l1 ++ i :: (l2 ++ j :: l3) → p.ops[i]? = some oi → p.ops[j]? = some oj →
    (∀ d, oi.dst = some d → d ∈ namesOf p.ops oj → (p.anc j).testBit i = true) ∧ (∀ d, oj.dst = some d → d ∈ namesOf p.ops oi → (p.anc j).testBit i = true)
  effs : ∀ i j, p.eff i = true → p.eff j = true → p.num i < p.num j → (p.anc j).testBit i = true
  efflt : ∀ i, p.eff i = true → p.num i < p.m ∧ i < p.ops.size
  irr : ∀ (i : Nat) (o : Oper), p.ops[i]? = some o → ∀ j, (p.anc i).testBit j = true → j < p.ops.size ∧ j ≠ i
  effsur : ∀ n, n < p.m → ∃ i, p.eff i = true ∧ p.num i = n
  len : p.ord.length ≤ p.ops.size
  effinj : ∀ i j, p.eff i = true → p.eff j = true → p.num i = p.num j → i = j
  dsts : ∀ (i : Nat) (o : Oper) (d : Nat), p.ops[i]? = some o → o.dst = some d → d < 256
section
variable {p : Plan} {q : Vals}
def dstOf (p : Plan) (i : Nat) : Option Nat := (p.ops[i]?).bind (·.dst)
theorem putD_get {dst : Option Nat} {v : AV} {tm : Tm} {t : Nat} (h : ∀ d, dst = some d → d < 256) : (putD dst v tm).get t = if dst = some t then some v else tm.get t := by
  cases dst with
  | none => simp [putD]
  | some d =>
    simp only [putD]
    rw [Tm.get_put _ _ _ (h d rfl)]
    by_cases hd : t = d
    · subst hd; simp
    · rw [if_neg hd, if_neg (by intro e; injection e with e; exact hd e.symm)]
theorem dst_lt (ok : PlanOK p) {i d : Nat} (h : dstOf p i = some d) : d < 256 := by
  unfold dstOf at h
  cases ho : p.ops[i]? with
  | none => rw [ho] at h; cases h
  | some o => rw [ho] at h; exact ok.dsts i o d ho h
noncomputable def stepT (p : Plan) (q : Vals) (D : Nat → Bool) (tm : Tm) (i : Nat) : Tm := if D i then putD (dstOf p i) (q.V i) tm else tm
theorem TD_eq (tm0 : Tm) (D : Nat → Bool) : TD p q tm0 D = p.ord.foldl (stepT p q D) tm0 := by
  rfl
theorem fold_agree (ok : PlanOK p) {D D' : Nat → Bool} {t : Nat} : ∀ (l : List Nat) (tm tm' : Tm), tm.get t = tm'.get t → (∀ j ∈ l, dstOf p j = some t → D j = D' j) → (l.foldl (stepT p q D) tm).get t = (l.foldl (stepT p q D') tm').get t
  | [], tm, tm', h, _ => h
  | j :: l, tm, tm', h, hd => by
    simp only [List.foldl_cons]
    refine fold_agree ok l _ _ ?_ (fun k hk => hd k (List.mem_cons_of_mem _ hk))
    have hj := hd j List.mem_cons_self
    unfold stepT
    by_cases hdt : dstOf p j = some t
    · rw [hj hdt]
      cases D' j with
      | true =>
        simp only [if_true]
        rw [putD_get (fun d hd => dst_lt ok hd), putD_get (fun d hd => dst_lt ok hd), if_pos hdt, if_pos hdt]
      | false => simpa using h
    · have e : ∀ (b : Bool) (x : Tm), (if b = true then putD (dstOf p j) (q.V j) x else x).get t = x.get t := fun b x => by
        cases b with
        | true => simp only [if_true]; rw [putD_get (fun d hd => dst_lt ok hd), if_neg hdt]
        | false => rfl
      rw [e, e, h]
theorem fold_none (ok : PlanOK p) {D : Nat → Bool} {t : Nat} (l : List Nat) (tm : Tm) (h : ∀ j ∈ l, D j = true → dstOf p j ≠ some t) : (l.foldl (stepT p q D) tm).get t = tm.get t := by
  have := fold_agree (q := q) ok (D := D) (D' := fun _ => false) (t := t) l tm tm rfl (fun j hj hd => by
    cases hDj : D j with
    | true => exact absurd hd (h j hj hDj)
    | false => rfl)
  rw [this]
  clear this h
  induction l generalizing tm with
  | nil => rfl
  | cons j l ih => simp only [List.foldl_cons]; exact ih _
theorem split_ord (ok : PlanOK p) {i : Nat} (hi : i < p.ops.size) : ∃ l1 l2, p.ord = l1 ++ i :: l2 ∧ i ∉ l1 ∧ i ∉ l2 := by
  obtain ⟨l1, l2, h⟩ := List.append_of_mem ((ok.perm i).2 hi)
  have hn := ok.nodup
  rw [h] at hn
  rw [List.nodup_append] at hn
  obtain ⟨h1, h2, h3⟩ := hn
  rw [List.nodup_cons] at h2
  exact ⟨l1, l2, h, fun hm => h3 i hm i List.mem_cons_self rfl, h2.1⟩
/-- What has been done, closed under what must be ahead. -/
def Closed (p : Plan) (D : Nat → Bool) : Prop := ∀ i, i < p.ops.size → D i = true → ∀ j, (p.anc i).testBit j = true → D j = true
/-- The slots ahead of an operation, in the order that does. -/
def TIs (p : Plan) (q : Vals) (tm0 : Tm) : Prop := ∀ l1 i l2, p.ord = l1 ++ i :: l2 → q.T i = l1.foldl (stepT p q fun _ => true) tm0
theorem earlier_names (ok : PlanOK p) {l1 l2 : List Nat} {i j t : Nat} {oi : Oper} (ho : p.ord = l1 ++ i :: l2) (hj : j ∈ l1) (hoi : p.ops[i]? = some oi) (hd : dstOf p j = some t) (ht : t ∈ namesOf p.ops oi) : (p.anc i).testBit j = true := by
  obtain ⟨k1, k2, rfl⟩ := List.append_of_mem hj
  unfold dstOf at hd
  cases hoj : p.ops[j]? with
  | none => rw [hoj] at hd; cases hd
  | some oj =>
    rw [hoj] at hd
    exact (ok.slots k1 j k2 i l2 oj oi (by rw [ho]; simp) hoj hoi).1 t hd ht
theorem later_names (ok : PlanOK p) {l1 l2 : List Nat} {i j t : Nat} {oi : Oper} (ho : p.ord = l1 ++ i :: l2) (hj : j ∈ l2) (hoi : p.ops[i]? = some oi) (hd : dstOf p j = some t) (ht : t ∈ namesOf p.ops oi) : (p.anc j).testBit i = true := by
  obtain ⟨k1, k2, rfl⟩ := List.append_of_mem hj
  unfold dstOf at hd
  cases hoj : p.ops[j]? with
  | none => rw [hoj] at hd; cases hd
  | some oj =>
    rw [hoj] at hd
    exact (ok.slots l1 i k1 j k2 oi oj (by rw [ho]) hoi hoj).2 t hd ht
theorem ord_lt (ok : PlanOK p) {l1 l2 : List Nat} {i j : Nat} (ho : p.ord = l1 ++ i :: l2) (hj : j ∈ l2) : j < p.ops.size := (ok.perm j).1 (by rw [ho]; simp [hj])
theorem TD_names (ok : PlanOK p) {tm0 : Tm} (hT : TIs p q tm0) {D : Nat → Bool} (hD : Closed p D) {i t : Nat} {oi : Oper} (hoi : p.ops[i]? = some oi) (hi : D i = false) (hanc : ∀ j, (p.anc i).testBit j = true → D j = true) (ht : t ∈ namesOf p.ops oi) :
    (TD p q tm0 D).get t = (q.T i).get t := by
  have hlt : i < p.ops.size := (Array.getElem?_eq_some_iff.1 hoi).1
  obtain ⟨l1, l2, ho, hn1, hn2⟩ := split_ord ok hlt
  rw [TD_eq, hT l1 i l2 ho, ho, List.foldl_append, List.foldl_cons, fold_none ok l2 _ (fun j hj hDj hd => ?_)]
  · have : stepT p q D (l1.foldl (stepT p q D) tm0) i = l1.foldl (stepT p q D) tm0 := by unfold stepT; rw [hi]; rfl
    rw [this]
    exact fold_agree ok l1 _ _ rfl fun j hj hd => hanc j (earlier_names ok ho hj hoi hd ht)
  · have := hD j (ord_lt ok ho hj) hDj i (later_names ok ho hj hoi hd ht)
    rw [hi] at this
    cases this
theorem TD_put (ok : PlanOK p) {tm0 : Tm} {D : Nat → Bool} (hD : Closed p D) {i : Nat} {oi : Oper} (hoi : p.ops[i]? = some oi) (hi : D i = false) (t : Nat) :
    (TD p q tm0 fun j => D j || decide (j = i)).get t = (putD oi.dst (q.V i) (TD p q tm0 D)).get t := by
  have hlt : i < p.ops.size := (Array.getElem?_eq_some_iff.1 hoi).1
  have hdi : dstOf p i = oi.dst := by unfold dstOf; rw [hoi]; rfl
  rw [putD_get (fun d hd => ok.dsts i oi d hoi hd)]
  by_cases hd : oi.dst = some t
  · rw [if_pos hd]
    obtain ⟨l1, l2, ho, hn1, hn2⟩ := split_ord ok hlt
    rw [TD_eq, ho, List.foldl_append, List.foldl_cons, fold_none ok l2 _ (fun j hj hDj hdj => ?_)]
    · unfold stepT
      simp only [decide_true, Bool.or_true, if_true]
      rw [putD_get (fun d hd => dst_lt ok hd), hdi, if_pos hd]
    · have hji : j ≠ i := fun e => hn2 (e ▸ hj)
      simp only [hji, decide_false, Bool.or_false] at hDj
      have hmem : t ∈ namesOf p.ops oi := by unfold namesOf; rw [hd]; simp
      have := hD j (ord_lt ok ho hj) hDj i (later_names ok ho hj hoi hdj hmem)
      rw [hi] at this
      cases this
  · rw [if_neg hd, TD_eq, TD_eq]
    refine fold_agree ok p.ord _ _ rfl fun j hj hdj => ?_
    have hji : j ≠ i := fun e => hd (by rw [← hdi, ← e]; exact hdj)
    simp [hji]
end
end Go.Proofs.YtopbojifllnckaaGreatDoor
namespace Go.Proofs.YtopbojifllnckaaGreatDoor
section
variable {P : Program} {tm tm' : Tm} {σ : St}
theorem avs_congr : ∀ {xs : List Operand}, (∀ x ∈ xs, aev tm x = aev tm' x) → avs tm xs = avs tm' xs
  | [], _ => rfl
  | x :: xs, h => by
    unfold avs
    rw [h x List.mem_cons_self, avs_congr (fun y hy => h y (List.mem_cons_of_mem _ hy))]
theorem partsA_congr : ∀ {ps : List (Nat × Operand)}, (∀ x ∈ ps.map (·.2), aev tm x = aev tm' x) → partsA tm ps = partsA tm' ps
  | [], _ => rfl
  | (i, x) :: ps, h => by
    unfold partsA
    rw [h x (by simp), partsA_congr (fun y hy => h y (by simp at hy ⊢; exact Or.inr hy))]
theorem ixO_congr {d : Nat} {x : Option Operand} (h : ∀ y, x = some y → aev tm y = aev tm' y) : ixO tm d x = ixO tm' d x := by
  cases x with
  | none => rfl
  | some y => simp only [ixO, h y rfl]
theorem sliceA_congr {t : TypeId} {v : AV} {lo hi mx : Option Operand} (h1 : ∀ y, lo = some y → aev tm y = aev tm' y) (h2 : ∀ y, hi = some y → aev tm y = aev tm' y) (h3 : ∀ y, mx = some y → aev tm y = aev tm' y) : sliceA P tm t v lo hi mx = sliceA P tm' t v lo hi mx := by
  have e1 : ∀ d, ixO tm d lo = ixO tm' d lo := fun d => ixO_congr h1
  have e2 : ∀ d, ixO tm d hi = ixO tm' d hi := fun d => ixO_congr h2
  have e3 : ∀ m, mx = some m → aev tm m = aev tm' m := h3
  unfold sliceA
  simp only [e1, e2]
  clear h1 h2 h3 e1 e2
  split
  · rfl
  · next e p n c ex hu =>
    generalize ixO tm' 0 lo = l
    generalize ixO tm' n hi = h
    generalize szB P e = s
    cases mx with
    | none => cases l <;> cases h <;> cases s <;> rfl
    | some m => cases l <;> cases h <;> cases s <;> first | rfl | (simp only [e3 m rfl])
  · rfl
  · rfl
  · rfl
structure Alike (P : Program) (tm tm' : Tm) (o : Oper) : Prop where
  p : opP P tm o = opP P tm' o
  r : ∀ σ, opR P tm σ o = opR P tm' σ o
  a : ∀ nx, opA P tm nx o = opA P tm' nx o
  e : ∀ σ, opE P tm σ o = opE P tm' σ o
  c : callA tm o = callA tm' o
theorem alike {o : Oper} (H : ∀ x ∈ o.op.operands.toList, aev tm x = aev tm' x) : Alike P tm tm' o := by
  obtain ⟨dst, op, ty, pos, after, guard⟩ := o
  simp only at H
  cases op with
  | slice t x lo hi mx =>
    have hx : aev tm x = aev tm' x := H x (by simp [Op.operands])
    have e := fun v => sliceA_congr (P := P) (t := t) (v := v) (lo := lo) (hi := hi) (mx := mx) (fun y hy => H y (by subst hy; simp [Op.operands])) (fun y hy => H y (by subst hy; simp [Op.operands])) (fun y hy => H y (by subst hy; simp [Op.operands]))
    exact ⟨by simp only [opP, hx, e], fun _ => rfl, fun _ => rfl, fun _ => rfl, rfl⟩
  | build t ps =>
    have e : partsA tm ps.toList = partsA tm' ps.toList := partsA_congr (fun x hx => H x (by simpa [Op.operands] using hx))
    exact ⟨rfl, fun _ => by simp only [opR, e], fun _ => rfl, fun _ => rfl, rfl⟩
  | buildSlice t n ps =>
    have e : partsA tm ps.toList = partsA tm' ps.toList := partsA_congr (fun x hx => H x (by simpa [Op.operands] using hx))
    exact ⟨rfl, fun _ => rfl, fun _ => by simp only [opA, e], fun _ => rfl, rfl⟩
  | makeFunc f a c =>
    have e1 : avs tm a.toList = avs tm' a.toList := avs_congr (fun x hx => H x (by simp [Op.operands]; exact Or.inl (by simpa using hx)))
    have e2 : avs tm c.toList = avs tm' c.toList := avs_congr (fun x hx => H x (by simp [Op.operands]; exact Or.inr (by simpa using hx)))
    refine ⟨?_, fun _ => rfl, fun _ => rfl, fun _ => rfl, rfl⟩
    cases f <;> first | rfl | simp only [opP, e1, e2]
  | call c =>
    obtain ⟨callee, args, ts⟩ := c
    have e1 : avs tm args.toList = avs tm' args.toList := avs_congr (fun x hx => H x (by
      simp only [Op.operands, Call.operands]
      cases callee <;> simp <;> first | exact Or.inr (by simpa using hx) | simpa using hx))
    cases callee with
    | value f =>
      have e2 : aev tm f = aev tm' f := H f (by simp [Op.operands, Call.operands])
      exact ⟨rfl, fun _ => rfl, fun _ => rfl, fun _ => rfl, by simp only [callA, e1, e2]⟩
    | invoke r m => exact ⟨rfl, fun _ => rfl, fun _ => rfl, fun _ => rfl, rfl⟩
    | builtin b =>
      refine ⟨by simp only [opP, e1], fun _ => ?_, fun _ => rfl, fun _ => ?_, rfl⟩
      · cases b <;> first | rfl | simp only [opR, e1]
      · cases b <;> first | rfl | simp only [opE, e1]
  | makeMap t r => cases r <;> exact ⟨rfl, fun _ => rfl, fun _ => rfl, fun _ => rfl, rfl⟩
  | next x s =>
    have hx : aev tm x = aev tm' x := H x (by simp [Op.operands])
    cases s
    · exact ⟨rfl, fun _ => rfl, fun _ => rfl, fun _ => by simp only [opE, hx], rfl⟩
    · exact ⟨rfl, fun _ => rfl, fun _ => rfl, fun _ => rfl, rfl⟩
  | _ =>
    simp only [Op.operands] at H
    simp at H
    exact ⟨by first | rfl | simp only [opP, H], fun _ => by first | rfl | simp only [opR, H], fun _ => by first | rfl | simp only [opA, H], fun _ => by first | rfl | simp only [opE, H], rfl⟩
end
end Go.Proofs.YtopbojifllnckaaGreatDoor
namespace Go.Proofs.YtopbojifllnckaaGreatDoor
noncomputable def opRd (P : Program) (tm : Tm) (σ : St) (o : Oper) : Option AV := match opP P tm o with
  | some v => some v
  | none => opR P tm σ o
noncomputable def opFx (P : Program) (call : CallF) (tm : Tm) (σ : St) (o : Oper) : Option (AV × St) := match callA tm o with
  | some (f, vs) => call f vs σ
  | none => opE P tm σ o
/-- Behind an effect: what it leaves, and blocks that come to live then. -/
structure Ext (p : Plan) (q : Vals) (i : Nat) (R : St) : Prop where
  next : R.next ≤ (q.S (p.num i + 1)).next
  get : ∀ b o, (q.S (p.num i + 1)).heap.get b = some o → R.heap.get b = some o ∨ (b < (q.S (p.num i + 1)).next ∧ ∃ j, j < p.ops.size ∧ p.al j = true ∧ q.wn j = true ∧ q.id j = b ∧ (p.anc j).testBit i = true)
  apart : ∀ j, p.al j = true → q.wn j = true → q.id j < (q.S (p.num i)).next ∨ R.next ≤ q.id j
structure Facts (P : Program) (call : CallF) (nt : Nat) (p : Plan) (q : Vals) (tm0 : Tm) (σ0 : St) : Prop where
  hT : TIs p q tm0
  want : ∀ i o, p.ops[i]? = some o → wantA p.ops (q.T i) o = some (q.wn i)
  unw : ∀ i, q.wn i = false → q.V i = .tup []
  rd : ∀ i o, p.ops[i]? = some o → p.eff i = false → p.al i = false → q.wn i = true → ∀ k, inK p i k → ∃ σ', (∀ b ob, σ'.heap.get b = some ob → (q.S k).heap.get b = some ob) ∧ (q.S k).next ≤ σ'.next ∧ opRd P (q.T i) σ' o = some (q.V i)
  made : ∀ i o, p.ops[i]? = some o → p.al i = true → q.wn i = true → opA P (q.T i) (q.id i) o = some (q.V i, q.ob i) ∧ σ0.next ≤ q.id i ∧ ∀ k, inK p i k → (q.S k).heap.get (q.id i) = some (q.ob i)
  ids : ∀ i j, p.al i = true → p.al j = true → q.wn i = true → q.wn j = true → q.id i = q.id j → i = j
  fx : ∀ i o, p.ops[i]? = some o → p.eff i = true → q.wn i = true → ∃ R, opFx P call (q.T i) (q.S (p.num i)) o = some (q.V i, R) ∧ Ext p q i R
  fx0 : ∀ i, p.eff i = true → q.wn i = false → Ext p q i (q.S (p.num i))
  init : σ0.next ≤ (q.S 0).next ∧ ∀ b o, (q.S 0).heap.get b = some o → σ0.heap.get b = some o ∨ (b < (q.S 0).next ∧ ∃ j, j < p.ops.size ∧ p.al j = true ∧ q.wn j = true ∧ q.id j = b)
  far : ∀ i, p.al i = true → q.wn i = true → σ0.next ≤ q.id i
  kinds : ∀ i, p.eff i = true → p.al i = false
  dsts : ∀ (i : Nat) (o : Oper) (d : Nat), p.ops[i]? = some o → o.dst = some d → d < nt
section
variable {P : Program} {call : CallF} {nt : Nat} {p : Plan} {q : Vals} {tm0 : Tm} {σ0 : St} {E0 : Env} {w0 : World} {a0 : Act}
/-- Where an execution stands, in any order. -/
structure Mid (P : Program) (nt : Nat) (p : Plan) (q : Vals) (tm0 : Tm) (E0 : Env) (σ0 : St) (w0 : World) (a0 : Act) (D : Nat → Bool) (k : Nat) (E : Env) (a : Act) (w : World) : Prop where
  closed : Closed p D
  km : k ≤ p.m
  effs : ∀ i, p.eff i = true → (D i = true ↔ p.num i < k)
  step : Step P E0 σ0 w0 E (q.S k) w
  slots : TmR E (TD p q tm0 D) a.tmps
  size : a.tmps.size = nt
  defers : a.defers = a0.defers
  un : ∀ i, p.al i = true → q.wn i = true → D i = false → E (q.id i) = none
theorem slot_mem {l : List Operand} {t : Nat} : t ∈ slotsOf l ↔ Operand.tmp t ∈ l := by
  unfold slotsOf
  rw [List.mem_filterMap]
  constructor
  · rintro ⟨x, hx, h⟩
    cases x <;> simp at h
    subst h
    exact hx
  · intro h
    exact ⟨_, h, rfl⟩
theorem aev_names (ok : PlanOK p) (hT : TIs p q tm0) {D : Nat → Bool} (hD : Closed p D) {i : Nat} {oi : Oper} (hoi : p.ops[i]? = some oi) (hi : D i = false) (hanc : ∀ j, (p.anc i).testBit j = true → D j = true) :
    (∀ x ∈ oi.op.operands.toList, aev (q.T i) x = aev (TD p q tm0 D) x) ∧ wantA p.ops (q.T i) oi = wantA p.ops (TD p q tm0 D) oi := by
  refine ⟨fun x hx => ?_, ?_⟩
  · cases x with
    | tmp t =>
      have hm : t ∈ namesOf p.ops oi := by
        unfold namesOf
        rw [List.mem_append, List.mem_append]
        exact Or.inl (Or.inr (slot_mem.2 hx))
      exact (TD_names ok hT hD hoi hi hanc hm).symm
    | const c => rfl
    | func f => rfl
    | global g => rfl
  · unfold wantA
    cases hg : oi.guard with
    | none => rfl
    | some g =>
      obtain ⟨j, want⟩ := g
      simp only
      cases hj : p.ops[j]? with
      | none => rfl
      | some oj =>
        simp only
        cases hd : oj.dst with
        | none => rfl
        | some d =>
          simp only
          have hm : d ∈ namesOf p.ops oi := by
            unfold namesOf
            rw [List.mem_append]
            right
            simp [hg, hj, hd]
          rw [TD_names ok hT hD hoi hi hanc hm]
theorem Alike.rd {tm tm' : Tm} {o : Oper} (h : Alike P tm tm' o) (σ : St) : opRd P tm σ o = opRd P tm' σ o := by unfold opRd; rw [h.p, h.r]
theorem Alike.fx {tm tm' : Tm} {o : Oper} (h : Alike P tm tm' o) (σ : St) : opFx P call tm σ o = opFx P call tm' σ o := by unfold opFx; rw [h.c, h.e]
/-- One operation more is done. -/
theorem Mid.next (ok : PlanOK p) (hf : Facts P call nt p q tm0 σ0) {D : Nat → Bool} {k : Nat} {E : Env} {a : Act} {w : World} (h : Mid P nt p q tm0 E0 σ0 w0 a0 D k E a w) {i : Nat} {oi : Oper} (hoi : p.ops[i]? = some oi) (hi : D i = false)
    (hanc : ∀ j, (p.anc i).testBit j = true → D j = true) {E' : Env} {k' : Nat} {w' : World} {c : Value} (hk' : k' ≤ p.m) (hkk : (p.eff i = false ∧ k' = k) ∨ (p.eff i = true ∧ p.num i = k ∧ k' = k + 1)) (hs : Step P E0 σ0 w0 E' (q.S k') w') (hle : E.le E')
    (hun : ∀ j, p.al j = true → q.wn j = true → D j = false → j ≠ i → E' (q.id j) = none) (hc : conc E' (q.V i) = some c) :
    Mid P nt p q tm0 E0 σ0 w0 a0 (fun j => D j || decide (j = i)) k' E' (a.put oi.dst c) w' := by
  have hlt : i < p.ops.size := (Array.getElem?_eq_some_iff.1 hoi).1
  refine ⟨fun j hj hDj l hl => ?_, hk', fun j hj => ?_, hs, fun t v ht => ?_, ?_, ?_, fun j h1 h2 h3 => ?_⟩
  · rw [Bool.or_eq_true]
    left
    rw [Bool.or_eq_true] at hDj
    rcases hDj with h1 | h1
    · exact h.closed j hj h1 l hl
    · obtain rfl := of_decide_eq_true h1
      exact hanc l hl
  · rw [Bool.or_eq_true]
    rcases hkk with ⟨he, rfl⟩ | ⟨he, hn, rfl⟩
    · have hji : j ≠ i := fun e => by rw [e, he] at hj; cases hj
      simp [hji, h.effs j hj]
    · by_cases hji : j = i
      · subst hji
        simp [hn]
      · have hne : p.num j ≠ p.num i := fun e => hji (ok.effinj j i hj he e)
        simp only [hji, decide_false, Bool.false_eq_true, or_false]
        rw [h.effs j hj]
        omega
  · rw [TD_put ok h.closed hoi hi, putD_get (fun d hd => ok.dsts i oi d hoi hd)] at ht
    by_cases hd : oi.dst = some t
    · rw [if_pos hd] at ht
      injection ht with ht
      subst ht
      refine ⟨c, ?_, hc⟩
      have : t < a.tmps.size := by rw [h.size]; exact hf.dsts i oi t hoi hd
      simp [Act.put, hd, this]
    · rw [if_neg hd] at ht
      obtain ⟨c', h1, h2⟩ := h.slots t v ht
      refine ⟨c', ?_, conc_mono hle v c' h2⟩
      cases hdd : oi.dst with
      | none => exact h1
      | some d =>
        have hne : d ≠ t := fun e => hd (by rw [hdd, e])
        simp only [Act.put]
        rw [Array.getElem?_setIfInBounds_ne hne]
        exact h1
  · cases hdd : oi.dst <;> simp [Act.put, h.size]
  · cases hdd : oi.dst <;> exact h.defers
  · rw [Bool.or_eq_false_iff] at h3
    exact hun j h1 h2 h3.1 (of_decide_eq_false h3.2)
theorem inK_of (ok : PlanOK p) {D : Nat → Bool} {k : Nat} {E : Env} {a : Act} {w : World} (h : Mid P nt p q tm0 E0 σ0 w0 a0 D k E a w) {i : Nat} (hi : D i = false) (hanc : ∀ j, (p.anc i).testBit j = true → D j = true) : inK p i k := by
  refine ⟨h.km, fun j hj hb => (h.effs j hj).1 (hanc j hb), fun j hj hb => ?_⟩
  rcases Nat.lt_or_ge (p.num j) k with h1 | h1
  · have hD := (h.effs j hj).2 h1
    have := h.closed j (ok.efflt j hj).2 hD i hb
    rw [hi] at this
    cases this
  · exact h1
end
end Go.Proofs.YtopbojifllnckaaGreatDoor
