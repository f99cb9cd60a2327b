/- store, copy, clear, writes to maps; all operations with effects as one. -/
import Derived.Test.YtopbojifllnckaaGreatDoorG07
namespace Go.Proofs.YtopbojifllnckaaGreatDoor
noncomputable def modA (v : AV) (k : AV) : List (AV × AV × Nat) → Nat → List (AV × AV × Nat)
  | [], _ => []
  | e :: es, 0 => (k, v, e.2.2) :: es
  | e :: es, i + 1 => e :: modA v k es i
section
variable (P : Program)
noncomputable def storeA (σ : St) (t : TypeId) (x v : AV) : Option St :=
  match x with
  | .ptr (some (b, o)) => match σ.heap.get b, szB P t with
    | some ob, some n => bif Nat.beq v.cells.length n && Tr.inB b then (match wrN ob o v.cells with
      | some ob' => some (σ.chg b ob')
      | none => none) else none
    | _, _ => none
  | _ => none
noncomputable def copyA (σ : St) (dT : TypeId) (d s : AV) : Option (AV × St) :=
  match P.underlying dT, d with
  | some (.slice e), .slc p n _ _ => match szB P e with
    | some size => match (match s with
        | .str l => bif Nat.beq size 1 then some (Nat.min l.length n, some (byteAV (l.take (Nat.min l.length n)))) else none
        | .slc (some (b, o)) m _ _ => match σ.heap.get b with
          | some ob => some (Nat.min m n, rdN ob o (Nat.min m n * size))
          | none => none
        | .slc none m _ _ => some (Nat.min m n, some [])
        | _ => none) with
      | some (k, some vs) => match p with
        | some (b, o) => match σ.heap.get b with
          | some ob => bif Tr.inB b then (match wrN ob o vs with
            | some ob' => some (.int .i64 k, σ.chg b ob')
            | none => none) else none
          | none => none
        | none => some (.int .i64 k, σ)
      | _ => none
    | none => none
  | _, _ => none
noncomputable def clearA (σ : St) (t : TypeId) (x : AV) : Option (AV × St) :=
  match P.underlying t, x with
  | some (.map _ _), .map none => some (.tup [], σ)
  | some (.map _ _), .map (some b) => match σ.heap.get b with
    | some (.map _ c) => bif Tr.inB b then some (.tup [], σ.chg b (.map [] c)) else none
    | _ => none
  | _, _ => none
noncomputable def mapUpA (σ : St) (t : TypeId) (m k v : AV) : Option St :=
  match P.underlying t, m with
  | some (.map kt _), .map (some b) => match σ.heap.get b with
    | some (.map es c) => bif Tr.inB b && keyOk P kt k then (match findA k es 0 with
      | some (some (i, _)) => some (σ.chg b (.map (modA v k es i) c))
      | some none => some (σ.chg b (.map (es ++ [(k, v, c)]) (c + 1)))
      | none => none) else none
    | _ => none
  | _, _ => none
noncomputable def rangeA (σ : St) (t : TypeId) (x : AV) : Option (AV × St) :=
  match P.underlying t, x with
  | some (.map _ _), .map (some b) => match σ.heap.get b with
    | some (.map _ c) => bif Tr.inB σ.next then some (.ptr (some (σ.next, 0)), σ.add (.iter b c [] c)) else none
    | _ => none
  | _, _ => none
noncomputable def nextA (σ : St) (x : AV) : Option (AV × St) :=
  match x with
  | .ptr (some (i, 0)) => match σ.heap.get i with
    | some (.iter b since seen stepped) => match σ.heap.get b with
      | some (.map es c) => match es, seen with
        | [], _ => some (.tup [.bool false], σ)
        | [(k, v, n)], [] => bif Nat.blt n since && Tr.inB i then some (.tup [.bool true, k, v], σ.chg i (.iter b since [n] c)) else none
        | [(_, _, n)], [n'] => bif Nat.beq n n' && Nat.blt n stepped then some (.tup [.bool false], σ) else none
        | _, _ => none
      | _ => none
    | _ => none
  | _ => none
noncomputable def entryA (σ : St) (x : AV) : Option AV :=
  match x with
  | .ptr (some (i, 0)) => match σ.heap.get i with
    | some (.iter b _ seen stepped) => match σ.heap.get b with
      | some (.map es c) => match es, seen with
        | [(k, v, n)], [n'] => bif Nat.beq n n' && Nat.beq c stepped then some (.tup [k, v]) else none
        | _, _ => none
      | _ => none
    | _ => none
  | _ => none
/-- What an operation with effects comes to. -/
noncomputable def opE (tm : Tm) (σ : St) (o : Oper) : Option (AV × St) :=
  match o.op with
  | .store t x y => match aev tm x, aev tm y with
    | some x, some y => match storeA P σ t x y with
      | some σ' => some (.tup [], σ')
      | none => none
    | _, _ => none
  | .mapUpdate t m k v => match aev tm m, aev tm k, aev tm v with
    | some m, some k, some v => match mapUpA P σ t m k v with
      | some σ' => some (.tup [], σ')
      | none => none
    | _, _, _ => none
  | .range t x => match aev tm x with
    | some v => rangeA P σ t v
    | none => none
  | .next x false => match aev tm x with
    | some v => nextA σ v
    | none => none
  | .entry x => match aev tm x with
    | some v => match entryA σ v with
      | some r => some (r, σ)
      | none => none
    | none => none
  | .call ⟨.builtin .append, args, ts⟩ => match avs tm args.toList, ts.toList with
    | some [s, x], [sT, xT] => appA P σ sT xT s x
    | _, _ => none
  | .call ⟨.builtin .copy, args, ts⟩ => match avs tm args.toList, ts.toList with
    | some [s, x], [dT, _] => copyA P σ dT s x
    | _, _ => none
  | .call ⟨.builtin .clear, args, ts⟩ => match avs tm args.toList, ts.toList with
    | some [x], [t] => clearA P σ t x
    | _, _ => none
  | _ => none
end

/-- An operation is done: with its value (nothing: what a slot without a value holds). -/
def RanBy (P : Program) (E : Env) (σ : St) (w : World) (a : Act) (o : Oper) (v : AV) (σ' : St) : Prop :=
  ∃ E' w' c, ((execOp a.eval o).run P w = .ok (.value c) w' ∨ ((execOp a.eval o).run P w = .ok .skip w' ∧ c = undef)) ∧ conc E' v = some c ∧ Step P E σ w E' σ' w'
section
variable {P : Program} {w : World} {E : Env} {tm : Tm} {a : Act} {σ : St}
theorem store_sound (hR : Rel P E σ w) {t : TypeId} {x v : AV} {σ' : St} {cx cv : Value} (h : storeA P σ t x v = some σ') (hx : conc E x = some cx) (hv : conc E v = some cv) :
    ∃ w', (Instr.storeAt t cx cv).run P w = .ok () w' ∧ Step P E σ w E σ' w' := by
  unfold storeA at h
  split at h <;> first | (cases h; done) | skip
  next b o =>
  split at h <;> first | (cases h; done) | skip
  next ob n hb hs =>
  cases hc : (Nat.beq v.cells.length n && Tr.inB b) with
  | false => rw [hc] at h; cases h
  | true =>
    rw [hc] at h
    simp only [cond_true] at h
    rw [Bool.and_eq_true] at hc
    have hn := beq_eq hc.1
    split at h <;> first | (cases h; done) | skip
    next ob' hw =>
    injection h with h
    subst h
    simp only [conc, Option.map_eq_some_iff] at hx
    obtain ⟨r, hr, rfl⟩ := hx
    have hcc := cells_conc hv
    obtain ⟨s1, s2, s3⟩ := step_wrN v.cells hR (Tr.inB_lt hc.2) hb hr hw hcc
    obtain ⟨z1, -, -⟩ := szB_run hs w
    have hsz : cv.cells.size = n := by have := concs_length hcc; rw [← hn, ← this]; simp
    have hst := run_storeCells_cells (P := P) r.1 o cv.cells.toList 0 w (fun j hj => (s2 j hj).1) (fun j hj => (s2 j hj).2) (fun u hu => by simpa using List.all_eq_true.1 s3 u hu)
    refine ⟨_, ?_, s1⟩
    simp only [Instr.storeAt, Instr.sureAddr, Sem.run_bind, Sem.run_pure, Result.andThen_ok, storeVar, z1]
    rw [if_neg (by rw [hsz]; simp)]
    exact hst
theorem copy_sound (hR : Rel P E σ w) {dT sT ty : TypeId} {d s v : AV} {σ' : St} {cd cs : Value} (h : copyA P σ dT d s = some (v, σ')) (hd : conc E d = some cd) (hs : conc E s = some cs) :
    DoneBy P E σ w ((Builtin.copy_ #[dT, sT] ty #[cd, cs]).run P w) v σ' := by
  unfold copyA at h
  split at h <;> first | (cases h; done) | skip
  next e p n c ex hu =>
  split at h <;> first | (cases h; done) | skip
  next size hsz =>
  obtain ⟨z1, -, -⟩ := szB_run hsz w
  split at h <;> first | (cases h; done) | skip
  next k vs hsrc =>
  -- the source
  have key : ∃ m news, (Builtin.lenOf cs).run P w = .ok m w ∧ Nat.min m n = k ∧ (Builtin.firstCells size (Nat.min m n) cs).run P w = .ok (news : List Value).toArray w ∧ concs E vs = some news := by
    split at hsrc <;> first | (cases hsrc; done) | skip
    · next l =>
      simp only [conc, Option.some.injEq] at hs
      subst hs
      cases hb : Nat.beq size 1 with
      | false => rw [hb] at hsrc; cases hsrc
      | true =>
        rw [hb] at hsrc
        obtain rfl := beq_eq hb
        simp only [cond_true, Option.some.injEq, Prod.mk.injEq] at hsrc
        obtain ⟨rfl, rfl⟩ := hsrc
        have hl : (⟨l.toArray⟩ : ByteArray).size = l.length := by simp [ByteArray.size]
        refine ⟨l.length, byteCells ⟨(l.take (Nat.min l.length n)).toArray⟩, by simp [Builtin.lenOf, hl], rfl, ?_, byteAV_conc E _⟩
        simp only [Builtin.firstCells, Sem.run_pure]
        congr 1
        apply Array.ext'
        simp [byteCells, ByteArray.data_extract]
    · next b o m c' ex' =>
      simp only [conc, Option.map_eq_some_iff] at hs
      obtain ⟨r, hr, rfl⟩ := hs
      split at hsrc <;> first | (cases hsrc; done) | skip
      next ob hb =>
      simp only [Option.some.injEq, Prod.mk.injEq] at hsrc
      obtain ⟨rfl, hv⟩ := hsrc
      obtain ⟨news, h1, h2, h3⟩ := rd_cells hR hb hr _ _ _ hv
      refine ⟨m, news, by simp [Builtin.lenOf], rfl, ?_, h3⟩
      exact run_firstCells_some w size _ ⟨r.1, o, none⟩ m _ news h1 (fun j u hj => by rw [Addr.add_mid]; exact h2 j u hj)
    · next m c' ex' =>
      simp only [conc, Option.some.injEq] at hs
      subst hs
      simp only [Option.some.injEq, Prod.mk.injEq] at hsrc
      obtain ⟨rfl, rfl⟩ := hsrc
      exact ⟨m, [], by simp [Builtin.lenOf], rfl, by simp [Builtin.firstCells], rfl⟩
  obtain ⟨m, news, h1, h2, h3, h4⟩ := key
  rw [h2] at h3
  split at h
  · next b o =>
    split at h <;> first | (cases h; done) | skip
    next ob hb =>
    cases hin : Tr.inB b with
    | false => rw [hin] at h; cases h
    | true =>
      rw [hin] at h
      simp only [cond_true] at h
      split at h <;> first | (cases h; done) | skip
      next ob' hw =>
      injection h with h
      obtain ⟨rfl, rfl⟩ := Prod.mk.inj h
      simp only [conc, Option.map_eq_some_iff] at hd
      obtain ⟨r, hr, rfl⟩ := hd
      obtain ⟨s1, s2, s3⟩ := step_wrN vs hR (Tr.inB_lt hin) hb hr hw h4
      have hst := run_storeCells_cells (P := P) r.1 o news 0 w (fun j hj => (s2 j hj).1) (fun j hj => (s2 j hj).2) (fun u hu => by simpa using List.all_eq_true.1 s3 u hu)
      refine ⟨E, _, .int .i64 k, ?_, rfl, s1⟩
      simp only [Builtin.copy_]
      simp only [List.getElem?_toArray, List.getElem?_cons_zero, List.getElem?_cons_succ, Sem.run_bind, run_underlying hu, Result.andThen_ok, h1, z1, h3, hst, Sem.run_pure, goInt, h2]
      rfl
  · injection h with h
    obtain ⟨rfl, rfl⟩ := Prod.mk.inj h
    simp only [conc, Option.some.injEq] at hd
    subst hd
    refine ⟨E, w, .int .i64 k, ?_, rfl, Step.refl hR⟩
    simp only [Builtin.copy_]
    simp only [List.getElem?_toArray, List.getElem?_cons_zero, List.getElem?_cons_succ, Sem.run_bind, run_underlying hu, Result.andThen_ok, h1, z1, h3, Sem.run_pure, goInt, h2]
theorem setObj_map {r : Nat} {es : Array MapEntry} {c : Nat} (o : Obj) (h : w.heap[r]? = some (.map es c)) : (setObj r o).run P w = .ok () { w with heap := w.heap.setIfInBounds r o } := by
  simp [setObj, Sem.run, h]
theorem step_map (hR : Rel P E σ w) {b : Nat} {o o' : AO} {r : Nat × Nat} {ob : Obj} (hin : b < 2 ^ 26) (hb : σ.heap.get b = some o) (hr : E b = some r) (ho : ObjOK P E r.2 o' ob) :
    Step P E σ w E (σ.chg b o') { w with heap := w.heap.setIfInBounds r.1 ob } := by
  have hlt := (hR.rng b r hr).2
  exact Step.change hR hin hb hr (by simp [hlt]) ho rfl rfl rfl (by simp) (fun c hc => by simp [Array.getElem?_setIfInBounds_ne (fun e => hc e.symm)])
theorem clear_sound (hR : Rel P E σ w) {t ty : TypeId} {x v : AV} {σ' : St} {cx : Value} (h : clearA P σ t x = some (v, σ')) (hx : conc E x = some cx) :
    DoneBy P E σ w ((Builtin.clear_ #[t] ty #[cx]).run P w) v σ' := by
  unfold clearA at h
  split at h <;> first | (cases h; done) | skip
  · next kt et hu =>
    injection h with h
    obtain ⟨rfl, rfl⟩ := Prod.mk.inj h
    simp only [conc, Option.some.injEq] at hx
    subst hx
    exact ⟨E, w, .tuple #[], by simp [Builtin.clear_, run_underlying hu], rfl, Step.refl hR⟩
  · next kt et b hu =>
    split at h <;> first | (cases h; done) | skip
    next es c hb =>
    cases hin : Tr.inB b with
    | false => rw [hin] at h; cases h
    | true =>
      rw [hin] at h
      simp only [cond_true, Option.some.injEq, Prod.mk.injEq] at h
      obtain ⟨rfl, rfl⟩ := h
      simp only [conc, Option.map_eq_some_iff] at hx
      obtain ⟨r, hr, rfl⟩ := hx
      obtain ⟨cs, h1, h2, h3⟩ := map_block hR hb hr
      obtain ⟨ob, h4, cs', rfl, hx0, -, -⟩ := hR.obj b _ hb r hr
      refine ⟨E, _, .tuple #[], ?_, rfl, step_map hR (Tr.inB_lt hin) hb hr (ob := .map #[] c) ⟨[], rfl, hx0, rfl, fun i k v n hi => by simp at hi⟩⟩
      simp only [Builtin.clear_]
      simp only [List.getElem?_toArray, List.getElem?_cons_zero, Sem.run_bind, run_underlying hu, Result.andThen_ok, getObj_map h1, setObj_map _ h1, Sem.run_pure]
theorem modA_get (v k : AV) : ∀ (es : List (AV × AV × Nat)) (i j : Nat), (modA v k es i)[j]? = if j = i then (es[j]?).map (fun e => (k, v, e.2.2)) else es[j]?
  | [], i, j => by simp [modA]
  | e :: es, 0, j => by cases j <;> simp [modA]
  | e :: es, i + 1, j => by
    cases j with
    | zero => simp [modA]
    | succ j => simp [modA, modA_get v k es i j]
theorem modA_len (v k : AV) : ∀ (es : List (AV × AV × Nat)) (i : Nat), (modA v k es i).length = es.length
  | [], i => by simp [modA]
  | e :: es, 0 => by simp [modA]
  | e :: es, i + 1 => by simp [modA, modA_len v k es i]
theorem find_key {k : AV} : ∀ {es : List (AV × AV × Nat)} {i j : Nat} {v : AV}, findA k es i = some (some (j, v)) → i ≤ j ∧ ∃ x n, es[j - i]? = some (x, v, n) ∧ keyEq k x = some true
  | [], i, j, v, h => by simp [findA] at h
  | (x, u, n) :: es, i, j, v, h => by
    unfold findA at h
    split at h
    · next he =>
      simp only [Option.some.injEq, Prod.mk.injEq] at h
      obtain ⟨rfl, rfl⟩ := h
      exact ⟨Nat.le_refl _, x, n, by simp, he⟩
    · next he =>
      obtain ⟨h1, x', n', h2, h3⟩ := find_key h
      exact ⟨by omega, x', n', by rw [show j - i = (j - (i + 1)) + 1 by omega, List.getElem?_cons_succ]; exact h2, h3⟩
    · cases h
theorem keyEq_same {k x : AV} {ck cx : Value} (h : keyEq k x = some true) (hk : conc E k = some ck) (hx : conc E x = some cx) : cx = ck := by
  unfold keyEq at h
  split at h
  · next q a q' b =>
    simp only [conc, Option.some.injEq] at hk hx
    subst hk hx
    cases hq : decide (q = q') with
    | false => rw [hq] at h; cases h
    | true =>
      rw [hq] at h
      have h1 := of_decide_eq_true hq
      simp only [cond_true, Option.some.injEq, beq_iff_eq] at h
      rw [h1, h]
  · next l l' =>
    simp only [conc, Option.some.injEq] at hk hx
    subst hk hx
    rw [eqL_eq] at h
    simp only [Option.some.injEq, beq_iff_eq] at h
    rw [h]
  · cases h
theorem stays {k : AV} {ck : Value} (t : TypeId) (h : keyOk P t k = true) (hk : conc E k = some ck) : (Instr.keyThatStays ck ck).run P w = .ok ck w := by
  unfold keyOk at h
  have hs : Instr.sameBits 10000 ck ck = true := by
    split at h
    · simp only [conc, Option.some.injEq] at hk
      subst hk
      simp [Instr.sameBits]
    · simp only [conc, Option.some.injEq] at hk
      subst hk
      simp only [Instr.sameBits]
      show (Array.instBEq.beq _ _) = true
      simp
    · cases h
  simp [Instr.keyThatStays, hs]
theorem mapUp_sound (hR : Rel P E σ w) {t : TypeId} {m k v : AV} {σ' : St} {cm ck cv : Value} (h : mapUpA P σ t m k v = some σ') (hm : conc E m = some cm) (hk : conc E k = some ck) (hv : conc E v = some cv) :
    ∃ w', (Instr.mapUpdate t cm ck cv).run P w = .ok () w' ∧ Step P E σ w E σ' w' := by
  unfold mapUpA at h
  split at h <;> first | (cases h; done) | skip
  next kt et b hu =>
  split at h <;> first | (cases h; done) | skip
  next es c hb =>
  cases hc : (Tr.inB b && keyOk P kt k) with
  | false => rw [hc] at h; cases h
  | true =>
    rw [hc] at h
    simp only [cond_true] at h
    rw [Bool.and_eq_true] at hc
    have hin := Tr.inB_lt hc.1
    simp only [conc, Option.map_eq_some_iff] at hm
    obtain ⟨r, hr, rfl⟩ := hm
    obtain ⟨cs, h1, h2, h3⟩ := map_block hR hb hr
    obtain ⟨ob, h4, cs', -, hx0, -, -⟩ := hR.obj b _ hb r hr
    obtain ⟨d, hd, hdk, hck⟩ := keyOk_spec (w := w) hc.2 hk
    split at h
    · next i v' hf =>
      injection h with h
      subst h
      obtain ⟨r', h5, c', rfl, h6⟩ := find_now hdk hk hf h2 h3
      have hfk : (Instr.findKey kt ck cs).run P w = .ok (some (i, c')) w := by
        unfold Instr.findKey
        rw [Sem.run_bind, run_underlying hd]
        simp only [Result.andThen_ok, h5]
        rfl
      obtain ⟨-, x, n, h7, h8⟩ := find_key hf
      rw [Nat.sub_zero] at h7
      obtain ⟨me, h9, h10, h11, h12⟩ := h3 i x v' n h7
      have hkey : me.key = ck := keyEq_same h8 hk h10
      have hst := stays (P := P) (w := w) kt hc.2 hk
      refine ⟨_, ?_, step_map hR hin hb hr (o' := .map (modA v k es i) c) (ob := .map (cs.toArray.modify i fun e => { e with key := ck, val := cv }) c) ?_⟩
      · simp only [Instr.mapUpdate, Sem.run_bind, run_underlying hu, Result.andThen_ok, getObj_map h1, hck false 9999, hfk, List.getElem?_toArray, h9, Option.map_some, Option.getD_some, hkey, hst, setObj_map _ h1]
      · refine ⟨cs.modify i fun e => { e with key := ck, val := cv }, by simp, hx0, ?_, fun j y u q hj => ?_⟩
        · rw [List.length_modify, h2, modA_len]
        · rw [modA_get] at hj
          rw [List.getElem?_modify]
          by_cases hji : j = i
          · subst hji
            rw [if_pos rfl, h7] at hj
            simp only [Option.map_some, Option.some.injEq, Prod.mk.injEq] at hj
            obtain ⟨rfl, rfl, rfl⟩ := hj
            exact ⟨{ me with key := ck, val := cv }, by simp [h9], hk, hv, h12⟩
          · rw [if_neg hji] at hj
            obtain ⟨me', e1, e2⟩ := h3 j y u q hj
            exact ⟨me', by simp [e1, Ne.symm hji], e2⟩
    · next hf =>
      injection h with h
      subst h
      obtain ⟨r', h5, h6⟩ := find_now hdk hk hf h2 h3
      simp only at h6
      subst h6
      have hfk : (Instr.findKey kt ck cs).run P w = .ok none w := by
        unfold Instr.findKey
        rw [Sem.run_bind, run_underlying hd]
        simp only [Result.andThen_ok, h5]
        rfl
      refine ⟨_, ?_, step_map hR hin hb hr (o' := .map (es ++ [(k, v, c)]) (c + 1)) (ob := .map (cs.toArray.push { key := ck, val := cv, born := c }) (c + 1)) ?_⟩
      · simp only [Instr.mapUpdate, Sem.run_bind, run_underlying hu, Result.andThen_ok, getObj_map h1, hck false 9999, hfk, setObj_map _ h1]
      · refine ⟨cs ++ [{ key := ck, val := cv, born := c }], by simp, hx0, by simp [h2], fun j y u q hj => ?_⟩
        by_cases hjl : j < es.length
        · rw [List.getElem?_append_left hjl] at hj
          obtain ⟨me, e1, e2⟩ := h3 j y u q hj
          exact ⟨me, by rw [List.getElem?_append_left (by omega)]; exact e1, e2⟩
        · rw [List.getElem?_append_right (by omega)] at hj
          have : j - es.length = 0 := by
            have := (List.getElem?_eq_some_iff.1 hj).1
            simp at this
            omega
          rw [this] at hj
          simp only [List.getElem?_cons_zero, Option.some.injEq, Prod.mk.injEq] at hj
          obtain ⟨rfl, rfl, rfl⟩ := hj
          refine ⟨{ key := ck, val := cv, born := c }, ?_, hk, hv, rfl⟩
          rw [List.getElem?_append_right (by omega), show j - cs.length = 0 by omega]
          rfl
    · cases h
theorem range_sound (hR : Rel P E σ w) {t : TypeId} {x v : AV} {σ' : St} {cx : Value} (h : rangeA P σ t x = some (v, σ')) (hx : conc E x = some cx) : DoneBy P E σ w ((Instr.range t cx).run P w) v σ' := by
  unfold rangeA at h
  split at h <;> first | (cases h; done) | skip
  next kt et b hu =>
  split at h <;> first | (cases h; done) | skip
  next es c hb =>
  cases hin : Tr.inB σ.next with
  | false => rw [hin] at h; cases h
  | true =>
    rw [hin] at h
    simp only [cond_true, Option.some.injEq, Prod.mk.injEq] at h
    obtain ⟨rfl, rfl⟩ := h
    simp only [conc, Option.map_eq_some_iff] at hx
    obtain ⟨r, hr, rfl⟩ := hx
    obtain ⟨cs, h1, h2, h3⟩ := map_block hR hb hr
    refine ⟨_, _, .pointer (some ⟨w.heap.size, 0, none⟩), ?_, ?_, Step.alloc (ob := .mapIter (some r.1) c #[] c) hR (Tr.inB_lt hin) (o := .iter b c [] c) (x := 0) ⟨r, rfl, rfl, Env.add_le (next_none hR) b r hr⟩⟩
    · simp only [Instr.range, Sem.run_bind, run_underlying hu, Result.andThen_ok, getObj_map h1, Sem.run_pure, run_newObj_alloc]
    · simp [conc, Env.add_self]
theorem getObj_iter {r : Nat} {m : Option Nat} {s : Nat} {seen : Array Nat} {c : Nat} (h : w.heap[r]? = some (.mapIter m s seen c)) : (getObj r).run P w = .ok (.mapIter m s seen c) w := by
  simp [getObj, Sem.run, h]
theorem setObj_iter {r : Nat} {m : Option Nat} {s : Nat} {seen : Array Nat} {c : Nat} (o : Obj) (h : w.heap[r]? = some (.mapIter m s seen c)) : (setObj r o).run P w = .ok () { w with heap := w.heap.setIfInBounds r o } := by
  simp [setObj, Sem.run, h]
theorem iter_block (hR : Rel P E σ w) {i m since stepped : Nat} {seen : List Nat} {r : Nat × Nat} (hb : σ.heap.get i = some (.iter m since seen stepped)) (hr : E i = some r) :
    ∃ rm : Nat × Nat, w.heap[r.1]? = some (.mapIter (some rm.1) since seen.toArray stepped) ∧ E m = some rm ∧ r.2 = 0 := by
  obtain ⟨ob, h1, rm, rfl, h2, h3⟩ := hR.obj i _ hb r hr
  exact ⟨rm, h1, h3, h2⟩
theorem next_sound (hR : Rel P E σ w) {x v : AV} {σ' : St} {cx : Value} (ty : TypeId) (h : nextA σ x = some (v, σ')) (hx : conc E x = some cx) : DoneBy P E σ w ((Instr.next cx false ty).run P w) v σ' := by
  unfold nextA at h
  split at h <;> first | (cases h; done) | skip
  next i =>
  split at h <;> first | (cases h; done) | skip
  next b since seen stepped hi =>
  split at h <;> first | (cases h; done) | skip
  next es c hb =>
  simp only [conc, Option.map_eq_some_iff] at hx
  obtain ⟨r, hr, rfl⟩ := hx
  obtain ⟨rm, h1, h2, h0⟩ := iter_block hR hi hr
  obtain ⟨cs, h3, h4, h5⟩ := map_block hR hb h2
  have hq : (Question.mapNext 1).forced = true := rfl
  split at h <;> first | (cases h; done) | skip
  · injection h with h
    obtain ⟨rfl, rfl⟩ := Prod.mk.inj h
    obtain rfl : cs = [] := by cases cs <;> simp_all
    refine ⟨E, w, .tuple #[.bool false], ?_, rfl, Step.refl hR⟩
    simp [Instr.next, getObj_iter h1, getObj_map h3, hq]
  · next k u n =>
    cases hc : (Nat.blt n since && Tr.inB i) with
    | false => rw [hc] at h; cases h
    | true =>
      rw [hc] at h
      simp only [cond_true, Option.some.injEq, Prod.mk.injEq] at h
      obtain ⟨rfl, rfl⟩ := h
      rw [Bool.and_eq_true] at hc
      have hn := blt_lt hc.1
      obtain ⟨m, h6, h7, h8, h9⟩ := h5 0 k u n rfl
      obtain rfl : cs = [m] := by
        cases cs with
        | nil => cases h6
        | cons m' cs => simp at h4; subst h4; simp at h6; rw [h6]
      have h1' : w.heap[r.1]? = some (.mapIter (some rm.1) since #[] stepped) := h1
      have hlt : m.born < since := by omega
      refine ⟨E, _, .tuple #[.bool true, m.key, m.val], ?_, by simp [conc, concs, h7, h8], step_map hR (Tr.inB_lt hc.2) hi hr (ob := .mapIter (some rm.1) since #[m.born] c) ⟨rm, by rw [h9], h0, h2⟩⟩
      simp [Instr.next, getObj_iter h1, getObj_map h3, hq, hlt, Nat.not_le.2 hlt, setObj_iter _ h1']
  · next k u n n' =>
    cases hc : (Nat.beq n n' && Nat.blt n stepped) with
    | false => rw [hc] at h; cases h
    | true =>
      rw [hc] at h
      simp only [cond_true, Option.some.injEq, Prod.mk.injEq] at h
      obtain ⟨rfl, rfl⟩ := h
      rw [Bool.and_eq_true] at hc
      obtain rfl := beq_eq hc.1
      have hn := blt_lt hc.2
      obtain ⟨m, h6, h7, h8, h9⟩ := h5 0 k u n rfl
      obtain rfl : cs = [m] := by
        cases cs with
        | nil => cases h6
        | cons m' cs => simp at h4; subst h4; simp at h6; rw [h6]
      refine ⟨E, w, .tuple #[.bool false], ?_, rfl, Step.refl hR⟩
      simp [Instr.next, getObj_iter h1, getObj_map h3, hq, h9, Nat.not_le.2 hn]
theorem entry_sound (hR : Rel P E σ w) {x v : AV} {cx : Value} (h : entryA σ x = some v) (hx : conc E x = some cx) : ∃ c, (Instr.entry cx).run P w = .ok c w ∧ conc E v = some c := by
  unfold entryA at h
  split at h <;> first | (cases h; done) | skip
  next i =>
  split at h <;> first | (cases h; done) | skip
  next b since seen stepped hi =>
  split at h <;> first | (cases h; done) | skip
  next es c hb =>
  simp only [conc, Option.map_eq_some_iff] at hx
  obtain ⟨r, hr, rfl⟩ := hx
  obtain ⟨rm, h1, h2, h0⟩ := iter_block hR hi hr
  obtain ⟨cs, h3, h4, h5⟩ := map_block hR hb h2
  split at h <;> first | (cases h; done) | skip
  next k u n n' =>
  cases hc : (Nat.beq n n' && Nat.beq c stepped) with
  | false => rw [hc] at h; cases h
  | true =>
    rw [hc] at h
    simp only [cond_true, Option.some.injEq] at h
    subst h
    rw [Bool.and_eq_true] at hc
    obtain rfl := beq_eq hc.1
    obtain rfl := beq_eq hc.2
    obtain ⟨m, h6, h7, h8, h9⟩ := h5 0 k u n rfl
    obtain rfl : cs = [m] := by
      cases cs with
      | nil => cases h6
      | cons m' cs => simp at h4; subst h4; simp at h6; rw [h6]
    refine ⟨.tuple #[m.key, m.val], ?_, by simp [conc, concs, h7, h8]⟩
    simp [Instr.entry, getObj_iter h1, getObj_map h3, h9]
end
end Go.Proofs.YtopbojifllnckaaGreatDoor
