/- The operations that read no memory are what the model does. -/
import Derived.Laws.StructEq
import Derived.ChangeKeysEq
import Derived.Test.YtopbojifllnckaaGreatDoorG03
namespace Go.Proofs.YtopbojifllnckaaGreatDoor
section
variable {P : Program} {w : World} {E : Env} {tm : Tm} {a : Act}
theorem eqV_int {t : TypeId} {cst : Bool} {k : IntKind} {n : Int} {y : AV} : eqV P t cst (.int k n) y = none := by
  unfold eqV
  split <;> first | rfl | (simp_all; done)
theorem eqV_str {t : TypeId} {cst : Bool} {l : List UInt8} {y : AV} : eqV P t cst (.str l) y = none := by
  unfold eqV
  split <;> first | rfl | (simp_all; done)
theorem eqV_tup {t : TypeId} {cst : Bool} {l : List AV} {y : AV} : eqV P t cst (.tup l) y = none := by
  unfold eqV
  split <;> first | rfl | (simp_all; done)
/-- Values that are no numbers and no strings. -/
def plainV : Value → Bool
  | .bool _ | .pointer _ | .slice .. | .map _ | .func .. | .nilFunc | .iface .. | .nilIface => true
  | _ => false
theorem eqV_plain {t : TypeId} {cst b : Bool} {x y : AV} {cx : Value} (h : eqV P t cst x y = some b) (hx : conc E x = some cx) : plainV cx = true := by
  cases x with
  | int k n => rw [eqV_int] at h; cases h
  | str l => rw [eqV_str] at h; cases h
  | tup l => rw [eqV_tup] at h; cases h
  | agg l => rw [eqV_agg] at h; cases h
  | ptr p => cases p with
    | none => simp only [conc, Option.some.injEq] at hx; subst hx; rfl
    | some q => obtain ⟨b, o⟩ := q; simp only [conc, Option.map_eq_some_iff] at hx; obtain ⟨r, -, rfl⟩ := hx; rfl
  | slc p n cp ex => cases p with
    | none => simp only [conc, Option.some.injEq] at hx; subst hx; rfl
    | some q => obtain ⟨b, o⟩ := q; simp only [conc, Option.map_eq_some_iff] at hx; obtain ⟨r, -, rfl⟩ := hx; rfl
  | send b o0 o1 ex => simp only [conc, Option.map_eq_some_iff] at hx; obtain ⟨r, -, rfl⟩ := hx; rfl
  | map p => cases p with
    | none => simp only [conc, Option.some.injEq] at hx; subst hx; rfl
    | some q => simp only [conc, Option.map_eq_some_iff] at hx; obtain ⟨r, -, rfl⟩ := hx; rfl
  | func f x y => simp only [conc, Option.bind_eq_some_iff, Option.map_eq_some_iff] at hx; obtain ⟨_, _, _, _, rfl⟩ := hx; rfl
  | iface t x => simp only [conc, Option.map_eq_some_iff] at hx; obtain ⟨r, -, rfl⟩ := hx; rfl
  | bool b => simp only [conc, Option.some.injEq] at hx; subst hx; rfl
  | nilFunc => simp only [conc, Option.some.injEq] at hx; subst hx; rfl
  | nilIface => simp only [conc, Option.some.injEq] at hx; subst hx; rfl
theorem bin_eql {cx : Value} (h : plainV cx = true) (t : TypeId) (cy : Value) : binOp .eql t cx cy = (do pure (.bool (← Op.equal t cx cy)) : Sem Value) := by
  cases cx <;> first | (cases h; done) | (cases cy <;> rfl)
theorem bin_neq {cx : Value} (h : plainV cx = true) (t : TypeId) (cy : Value) : binOp .neq t cx cy = (do pure (.bool (!(← Op.equal t cx cy))) : Sem Value) := by
  cases cx <;> first | (cases h; done) | (cases cy <;> rfl)
theorem eq1_run (d : Nat) {t : TypeId} {x y : AV} {b : Bool} {cx cy : Value} (h : eq1 P t x y = some b) (hx : conc E x = some cx) (hy : conc E y = some cy) : (Op.equalIn (d + 1) t cx cy).run P w = .ok b w ∧ (isAgg t).run P w = .ok false w := by
  unfold eq1 at h
  split at h <;> first | (cases h; done) | skip
  · next k0 k a k' b' hu =>
    simp only [conc, Option.some.injEq] at hx hy
    subst hx hy
    cases hk : decide (k = k') with
    | false => rw [hk] at h; cases h
    | true =>
      rw [hk] at h
      have := of_decide_eq_true hk
      subst this
      simp only [cond_true, Option.some.injEq] at h
      subst h
      exact ⟨run_equalIn_int w d t k k0 a b' hu, by simp [isAgg, run_underlying hu]⟩
  · next l l' hu =>
    simp only [conc, Option.some.injEq] at hx hy h
    subst hx hy h
    rw [run_equalIn_string w d t _ _ hu, eqL_eq]
    simp [isAgg, run_underlying hu]
  · next a b' hu =>
    simp only [conc, Option.some.injEq] at hx hy h
    subst hx hy h
    exact ⟨run_equalIn_bool' w d t a b' hu, by simp [isAgg, run_underlying hu]⟩
theorem eqCs_run (d : Nat) {e : TypeId} (h1 : P.cellsOf e = 1) : ∀ {as bs : List AV} {ca cb pa pb : List Value} {r : Bool} (k : Nat), pa.length = k → pb.length = k → concs E as = some ca → concs E bs = some cb → eqCs P e as bs = some r →
    (Op.eqItems (d + 1) e (P.cellsOf e) (pa ++ ca).toArray (pb ++ cb).toArray (List.range' k as.length)).run P w = .ok r w
  | [], bs, ca, cb, pa, pb, r, k, _, _, _, _, h => by
    cases bs with
    | nil =>
      simp only [eqCs, Option.some.injEq] at h
      subst h
      rfl
    | cons b bs => cases h
  | a :: as, bs, ca, cb, pa, pb, r, k, hpa, hpb, hca, hcb, h => by
    cases bs with
    | nil => cases h
    | cons b bs =>
      obtain ⟨c, ca', rfl, k1, k2⟩ := concs_cons hca
      obtain ⟨c', cb', rfl, k3, k4⟩ := concs_cons hcb
      simp only [eqCs] at h
      have key : ∀ q, eq1 P e a b = some q → (Op.eqItems (d + 1) e (P.cellsOf e) (pa ++ c :: ca').toArray (pb ++ c' :: cb').toArray (k :: List.range' (k + 1) as.length)).run P w = (if (!q) = true then pure false else Op.eqItems (d + 1) e (P.cellsOf e) (pa ++ c :: ca').toArray (pb ++ c' :: cb').toArray (List.range' (k + 1) as.length) : Sem Bool).run P w := fun q hq => by
        obtain ⟨h5, h6⟩ := eq1_run (w := w) d hq k1 k3
        have g1 : (pa ++ c :: ca')[k]? = some c := by rw [List.getElem?_append_right (by omega)]; simp [hpa]
        have g2 : (pb ++ c' :: cb')[k]? = some c' := by rw [List.getElem?_append_right (by omega)]; simp [hpb]
        have p1 : (part e (pa ++ c :: ca').toArray (k * 1)).run P w = .ok c w := by unfold part; rw [Sem.run_bind, h6, Nat.mul_one]; simp [g1]
        have p2 : (part e (pb ++ c' :: cb').toArray (k * 1)).run P w = .ok c' w := by unfold part; rw [Sem.run_bind, h6, Nat.mul_one]; simp [g2]
        simp only [Op.eqItems, h1, Sem.run_bind, p1, p2, h5, Result.andThen_ok]
      have hr : List.range' k (a :: as).length = k :: List.range' (k + 1) as.length := by simp [List.range'_succ]
      rw [hr]
      split at h
      · next hq =>
        rw [key true hq]
        have := eqCs_run d h1 (pa := pa ++ [c]) (pb := pb ++ [c']) (k + 1) (by simp [hpa]) (by simp [hpb]) k2 k4 h
        simpa using this
      · next hq =>
        rw [key false hq]
        injection h with h
        subst h
        rfl
      · cases h
theorem eqFs_run (d : Nat) {xs ys : List AV} {cx cy : List Value} (hx : concs E xs = some cx) (hy : concs E ys = some cy) : ∀ {fs : List Field} {b : Bool}, eqFs P xs ys fs = some b → (Op.eqFields (d + 2) cx.toArray cy.toArray fs).run P w = .ok b w
  | [], b, h => by
    simp only [eqFs, Option.some.injEq] at h
    subst h
    rfl
  | f :: fs, b, h => by
    unfold eqFs at h
    cases hn : f.name == "_" with
    | true => rw [hn] at h; cases h
    | false =>
      rw [hn] at h
      simp only [cond_false] at h
      have hne : f.name ≠ "_" := fun e => by rw [e] at hn; simp at hn
      unfold Op.eqFields
      rw [if_pos hne]
      split at h
      · next n e harr =>
        unfold arrF at harr
        split at harr <;> first | (cases harr; done) | skip
        next n' e' hu =>
        split at harr <;> first | (cases harr; done) | skip
        next ie it hie hit =>
        cases hs1 : Nat.beq ie.size 1 with
        | false => rw [hs1] at harr; cases harr
        | true =>
          cases hs2 : Nat.beq it.size n' with
          | false => rw [hs1, hs2] at harr; cases harr
          | true =>
            rw [hs1, hs2] at harr
            simp only [cond_true, Option.some.injEq, Prod.mk.injEq] at harr
            obtain ⟨rfl, rfl⟩ := harr
            cases hl : Nat.beq ((xs.drop f.offset).take n').length n' with
            | false => rw [hl] at h; cases h
            | true =>
              rw [hl] at h
              simp only [cond_true] at h
              have hlen := beq_eq hl
              have c1 := concs_take n' (concs_drop f.offset hx)
              have c2 := concs_take n' (concs_drop f.offset hy)
              have hag : (isAgg f.type).run P w = .ok true w := by simp [isAgg, run_underlying hu]
              have hsz : (sizeOf f.type).run P w = .ok n' w := by rw [run_sizeOf w hit]; simp [Program.cellsOf, hit, beq_eq hs2]
              have hp : ∀ (l : List Value), (part f.type l.toArray f.offset).run P w = .ok (.agg ((l.drop f.offset).take n').toArray) w := fun l => by
                unfold part
                rw [Sem.run_bind, hag]
                simp only [Result.andThen_ok, if_true, Sem.run_bind, hsz, Sem.run_pure]
                congr 2
                apply Array.ext'
                simp
              have hcell : P.cellsOf e' = 1 := by simp [Program.cellsOf, hie, beq_eq hs1]
              have key : ∀ r, eqCs P e' ((xs.drop f.offset).take n') ((ys.drop f.offset).take n') = some r → ∀ (X : Bool → Sem Bool), (do
                  let a ← part f.type cx.toArray f.offset
                  let b ← part f.type cy.toArray f.offset
                  let r ← Op.equalIn (d + 2) f.type a b
                  X r : Sem Bool).run P w = (X r).run P w := fun r hr X => by
                have h5 := eqCs_run (w := w) d hcell (pa := []) (pb := []) 0 rfl rfl c1 c2 hr
                have h6 := run_equalIn_array w (d + 1) ((cx.drop f.offset).take n').toArray ((cy.drop f.offset).take n').toArray hu hie
                rw [hlen, ← List.range_eq_range'] at h5
                simp only [List.nil_append] at h5
                rw [h5] at h6
                simp only [Sem.run_bind, hp, h6, Result.andThen_ok]
              split at h
              · next hr => rw [key true hr]; simpa using eqFs_run d hx hy h
              · next hr => rw [key false hr]; injection h with h; subst h; rfl
              · cases h
      · split at h <;> first | (cases h; done) | skip
        next a c ha hc =>
        obtain ⟨ca, h1, h2⟩ := concs_get hx ha
        obtain ⟨cc, h3, h4⟩ := concs_get hy hc
        have key : ∀ r, eq1 P f.type a c = some r → ∀ (X : Bool → Sem Bool), (do
            let a ← part f.type cx.toArray f.offset
            let b ← part f.type cy.toArray f.offset
            let r ← Op.equalIn (d + 2) f.type a b
            X r : Sem Bool).run P w = (X r).run P w := fun r hr X => by
          obtain ⟨h5, h6⟩ := eq1_run (w := w) (d + 1) hr h2 h4
          have p1 : (part f.type cx.toArray f.offset).run P w = .ok ca w := by unfold part; rw [Sem.run_bind, h6]; simp [h1]
          have p2 : (part f.type cy.toArray f.offset).run P w = .ok cc w := by unfold part; rw [Sem.run_bind, h6]; simp [h3]
          simp only [Sem.run_bind, p1, p2, h5, Result.andThen_ok]
        split at h
        · next hr => rw [key true hr]; simpa using eqFs_run d hx hy h
        · next hr => rw [key false hr]; injection h with h; subst h; rfl
        · cases h
theorem aggEq_run {t : TypeId} {x y : Operand} {op : BinOp} {xs ys : List AV} {b : Bool} {cx cy : List Value} (h : aggEq P t xs ys = some b) (hx : concs E xs = some cx) (hy : concs E ys = some cy) :
    (Op.equalIn 10000 t (.agg cx.toArray) (.agg cy.toArray)).run P w = .ok b w ∧ (eqGuard op t x y (.agg cx.toArray) (.agg cy.toArray)).run P w = .ok () w := by
  unfold aggEq at h
  split at h <;> first | (cases h; done) | skip
  next fs hu =>
  cases hc : (P.stoodInHeld t || P.eqGuardType P.depth t) with
  | true => rw [hc] at h; cases h
  | false =>
    rw [hc] at h
    simp only [cond_false] at h
    rw [Bool.or_eq_false_iff] at hc
    have hf : P.fieldsOf t = fs := by simp [Program.fieldsOf, hu]
    have hu' : P.underlying t = some (.struct (P.fieldsOf t)) := by rw [hf]; exact hu
    refine ⟨?_, run_eqGuard_agg w op t x y _ _ hc.2⟩
    have := run_equalIn_struct w 9999 t cx.toArray cy.toArray hu' hc.1
    rw [hf] at this
    exact this.trans (eqFs_run 9997 hx hy h)
theorem bin_sound {op : BinOp} {t : TypeId} {x y : Operand} {vx vy v : AV} {cx cy : Value} (h : binA P op t (isConstB x || isConstB y) vx vy = some v) (hx : conc E vx = some cx) (hy : conc E vy = some cy) :
    ∃ c, (do eqGuard op t x y cx cy; binOp op t cx cy : Sem Value).run P w = .ok c w ∧ conc E v = some c := by
  unfold binA at h
  split at h
  · next k n k' n' =>
    simp only [conc, Option.some.injEq] at hx hy
    subst hx hy
    have hg : (eqGuard op t x y (.int k n) (.int k' n')).run P w = .ok () w := by cases op <;> simp [eqGuard]
    rw [Sem.run_bind, hg]
    simp only [Result.andThen_ok]
    split at h
    · exact run_sh E (Or.inl rfl) h t
    · exact run_sh E (Or.inr rfl) h t
    · next h1 h2 =>
      cases hk : decide (k = k') with
      | false => rw [hk] at h; cases h
      | true =>
        rw [hk] at h
        have : k = k' := of_decide_eq_true hk
        subst this
        exact run_int E h t
  · next l l' =>
    simp only [conc, Option.some.injEq] at hx hy
    subst hx hy
    have hg : (eqGuard op t x y (.string ⟨l.toArray⟩) (.string ⟨l'.toArray⟩)).run P w = .ok () w := by cases op <;> simp [eqGuard]
    rw [Sem.run_bind, hg]
    simp only [Result.andThen_ok]
    exact run_str E h t
  · next xs ys =>
    simp only [conc, Option.map_eq_some_iff] at hx hy
    obtain ⟨cx', hcx, rfl⟩ := hx
    obtain ⟨cy', hcy, rfl⟩ := hy
    split at h
    · obtain ⟨b, hb, rfl⟩ := Option.map_eq_some_iff.1 h
      obtain ⟨h3, h4⟩ := aggEq_run (w := w) (x := x) (y := y) (op := .eql) hb hcx hcy
      exact ⟨.bool b, by rw [Sem.run_bind, h4]; simp only [Result.andThen_ok]; rw [run_eql_struct, h3]; rfl, rfl⟩
    · obtain ⟨b, hb, rfl⟩ := Option.map_eq_some_iff.1 h
      obtain ⟨h3, h4⟩ := aggEq_run (w := w) (x := x) (y := y) (op := .neq) hb hcx hcy
      exact ⟨.bool (!b), by rw [Sem.run_bind, h4]; simp only [Result.andThen_ok]; rw [run_neq_struct, h3]; rfl, rfl⟩
    · cases h
  · next h1 h2 h3 =>
    split at h
    · obtain ⟨b, hb, rfl⟩ := Option.map_eq_some_iff.1 h
      rw [Sem.run_bind, run_guard rfl hb hx hy, bin_eql (eqV_plain hb hx)]
      refine ⟨.bool b, ?_, rfl⟩
      simp only [Result.andThen_ok, Sem.run_bind, run_eqV (w := w) hb hx hy, Sem.run_pure]
    · obtain ⟨b, hb, rfl⟩ := Option.map_eq_some_iff.1 h
      rw [Sem.run_bind, run_guard rfl hb hx hy, bin_neq (eqV_plain hb hx)]
      refine ⟨.bool (!b), ?_, rfl⟩
      simp only [Result.andThen_ok, Sem.run_bind, run_eqV (w := w) hb hx hy, Sem.run_pure]
    · cases h
theorem un_sound {op : UnOp} {x v : AV} {cx : Value} (h : unA op x = some v) (hx : conc E x = some cx) : ∃ c, (Op.unary op cx).run P w = .ok c w ∧ conc E v = some c := by
  unfold unA at h
  split at h <;> first | (cases h; done) | skip
  · simp only [Option.some.injEq, conc] at h hx; subst h hx; exact ⟨_, by simp [Op.unary, Op.intArith]; rfl, by simp [conc, wr_eq]⟩
  · simp only [Option.some.injEq, conc] at h hx; subst h hx; exact ⟨_, by simp [Op.unary, Op.intBits]; rfl, by simp [conc, wr_eq]⟩
  · simp only [Option.some.injEq, conc] at h hx; subst h hx; exact ⟨_, by simp [Op.unary]; rfl, by simp [conc]⟩
theorem conv_sound {s d : TypeId} {x v : AV} {cx : Value} (h : convA P s d x = some v) (hx : conc E x = some cx) : ∃ c, (convert s d cx).run P w = .ok c w ∧ conc E v = some c := by
  unfold convA at h
  split at h <;> first | (cases h; done) | skip
  · next d1 k k' n h1 h2 =>
    simp only [Option.some.injEq, conc] at h hx; subst h hx
    refine ⟨.int k (k.wrap n), ?_, by simp [conc, wr_eq]⟩
    simp only [convert, Sem.run_bind, run_underlying h1, run_underlying h2, Result.andThen_ok]
    rfl
  · next d1 l h1 h2 =>
    simp only [Option.some.injEq, conc] at h hx; subst h hx
    refine ⟨.string ⟨l.toArray⟩, ?_, by simp [conc]⟩
    simp only [convert, Sem.run_bind, run_underlying h1, run_underlying h2, Result.andThen_ok]
    rfl
theorem field_sound {t : TypeId} {x v : AV} {i : Nat} {cx : Value} (h : fieldA P t x i = some v) (hx : conc E x = some cx) : ∃ c, (Instr.field t cx i).run P w = .ok c w ∧ conc E v = some c := by
  unfold fieldA at h
  split at h <;> first | (cases h; done) | skip
  next fs cs h1 =>
  split at h <;> first | (cases h; done) | skip
  next f hf =>
  simp only [conc, Option.map_eq_some_iff] at hx
  obtain ⟨ds, hd, rfl⟩ := hx
  obtain ⟨c, h2, h3⟩ := part_run h hd w
  refine ⟨c, ?_, h3⟩
  simp only [Instr.field, Sem.run_bind, run_underlying h1, Result.andThen_ok, hf, asAgg, Sem.run_pure, h2]
theorem fieldAddr_sound {t : TypeId} {x v : AV} {i : Nat} {cx : Value} (h : fieldAddrA P t x i = some v) (hx : conc E x = some cx) : ∃ c, (Instr.fieldAt t cx i).run P w = .ok c w ∧ conc E v = some c := by
  unfold fieldAddrA at h
  split at h <;> first | (cases h; done) | skip
  next fs b o h1 =>
  split at h <;> first | (cases h; done) | skip
  next f hf =>
  split at h <;> first | (cases h; done) | skip
  next n hs =>
  simp only [Option.some.injEq] at h
  subst h
  simp only [conc, Option.map_eq_some_iff] at hx
  obtain ⟨r, hr, rfl⟩ := hx
  obtain ⟨s1, -, -⟩ := szB_run hs w
  refine ⟨.pointer (some ⟨r.1, o + f.offset, none⟩), ?_, by simp [conc, hr]⟩
  simp only [Instr.fieldAt, Sem.run_bind, run_underlying h1, Result.andThen_ok, hf, Instr.sureAddr, Sem.run_pure, fieldPlace, s1]
  simp [Addr.add_mid]
theorem indexAddr_sound {t : TypeId} {x i v : AV} {cx ci : Value} (h : indexAddrA P t x i = some v) (hx : conc E x = some cx) (hi : conc E i = some ci) : ∃ c, (Instr.indexAt t cx ci).run P w = .ok c w ∧ conc E v = some c := by
  unfold indexAddrA at h
  split at h <;> first | (cases h; done) | skip
  · next n e b o j h1 h2 =>
    obtain ⟨k, rfl⟩ := ixOf_int h2 hi
    split at h <;> first | (cases h; done) | skip
    next s hs =>
    obtain ⟨s1, -, -⟩ := szB_run hs w
    cases hb : Nat.blt j n with
    | false => rw [hb] at h; cases h
    | true =>
      rw [hb] at h
      simp only [cond_true, Option.some.injEq] at h
      subst h
      have hlt := blt_lt hb
      simp only [conc, Option.map_eq_some_iff] at hx
      obtain ⟨r, hr, rfl⟩ := hx
      refine ⟨.pointer (some ⟨r.1, o + j * s, none⟩), ?_, by simp [conc, hr]⟩
      have hc : (0 : Int) ≤ (j : Int) ∧ (j : Int) < (n : Int) := by omega
      simp only [Instr.indexAt, asIntOf, Sem.run_bind, Sem.run_pure, run_underlying h1, Result.andThen_ok, Instr.sureAddr, if_pos hc, s1]
      simp [Addr.add_mid]
  · next e b o n cp ex j h1 h2 =>
    obtain ⟨k, rfl⟩ := ixOf_int h2 hi
    split at h <;> first | (cases h; done) | skip
    next s hs =>
    obtain ⟨s1, -, -⟩ := szB_run hs w
    cases hb : Nat.blt j n with
    | false => rw [hb] at h; cases h
    | true =>
      rw [hb] at h
      simp only [cond_true, Option.some.injEq] at h
      subst h
      have hlt := blt_lt hb
      simp only [conc, Option.map_eq_some_iff] at hx
      obtain ⟨r, hr, rfl⟩ := hx
      refine ⟨.pointer (some ⟨r.1, o + j * s, none⟩), ?_, by simp [conc, hr]⟩
      have hc : (0 : Int) ≤ (j : Int) ∧ (j : Int) < (n : Int) := by omega
      simp only [Instr.indexAt, asIntOf, Sem.run_bind, Sem.run_pure, run_underlying h1, Result.andThen_ok, if_pos hc, s1]
      simp [Addr.add_mid]
theorem index_sound {t : TypeId} {x i v : AV} {cx ci : Value} (h : indexA P t x i = some v) (hx : conc E x = some cx) (hi : conc E i = some ci) : ∃ c, (Instr.index t cx ci).run P w = .ok c w ∧ conc E v = some c := by
  unfold indexA at h
  split at h <;> first | (cases h; done) | skip
  · next n e cs j h1 h2 =>
    obtain ⟨k, rfl⟩ := ixOf_int h2 hi
    split at h <;> first | (cases h; done) | skip
    next s hs =>
    obtain ⟨s1, -, -⟩ := szB_run hs w
    cases hb : Nat.blt j n with
    | false => rw [hb] at h; cases h
    | true =>
      rw [hb] at h
      simp only [cond_true] at h
      have hlt := blt_lt hb
      simp only [conc, Option.map_eq_some_iff] at hx
      obtain ⟨ds, hd, rfl⟩ := hx
      obtain ⟨c, h3, h4⟩ := part_run h hd w
      refine ⟨c, ?_, h4⟩
      have hc : (0 : Int) ≤ (j : Int) ∧ (j : Int) < (n : Int) := by omega
      simp only [Instr.index, asIntOf, Sem.run_bind, Sem.run_pure, run_underlying h1, Result.andThen_ok, if_pos hc, s1, Int.toNat_natCast, h3]
  · next l j h1 h2 =>
    obtain ⟨k, rfl⟩ := ixOf_int h2 hi
    split at h <;> first | (cases h; done) | skip
    next b hb =>
    simp only [Option.some.injEq, conc] at h hx
    subst h hx
    refine ⟨.int .u8 b.toNat, ?_, by simp [conc]⟩
    have h0 : (0 : Int) ≤ (j : Int) := by omega
    have hg : (⟨l.toArray⟩ : ByteArray)[(j : Int).toNat]? = some b := by
      rw [Int.toNat_natCast]
      have hj : j < l.length := (List.getElem?_eq_some_iff.1 hb).1
      have hj2 : j < (⟨l.toArray⟩ : ByteArray).size := by simpa [ByteArray.size] using hj
      rw [getElem?_pos (⟨l.toArray⟩ : ByteArray) j hj2]
      rw [List.getElem?_eq_getElem hj] at hb
      exact hb
    simp only [Instr.index, asIntOf, Sem.run_bind, Sem.run_pure, run_underlying h1, Result.andThen_ok, if_pos h0, hg]
end
end Go.Proofs.YtopbojifllnckaaGreatDoor
