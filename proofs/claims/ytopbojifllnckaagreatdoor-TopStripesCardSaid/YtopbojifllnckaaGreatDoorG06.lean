/- Operations that read memory; that make a block. Look-ups; the operations that read, and those that make a block, are what the model does. Operations that make a block: what the model does. -/
import Derived.Laws.IdiomStrings
import Derived.Laws.Tables
import Derived.MapKept
import Derived.Test.YtopbojifllnckaaGreatDoorG05
namespace Go.Proofs.YtopbojifllnckaaGreatDoor
section
variable (P : Program)
noncomputable def partsA (tm : Tm) : List (Nat × Operand) → Option (List (Nat × AV))
  | [] => some []
  | (i, x) :: r => match aev tm x, partsA tm r with
    | some v, some vs => some ((i, v) :: vs)
    | _, _ => none
noncomputable def buildA (t : TypeId) (parts : List (Nat × AV)) : Option AV :=
  match P.info? t, P.underlying t with
  | some it, some (.array _ e) => match it.zero, P.info? e with
    | some z, some ie => match absL z.cells.toList with
      | some zl => (fillA (fun i => some (i * ie.size, ie.size)) zl parts).map .agg
      | none => none
    | _, _ => none
  | some it, some (.struct fs) => match it.zero, fs.toList.mapM (fun f => (P.info? f.type).map fun i => (f.offset, i.size)) with
    | some z, some pl => match absL z.cells.toList with
      | some zl => (fillA (pl.toArray[·]?) zl parts).map .agg
      | none => none
    | _, _ => none
  | _, _ => none
noncomputable def loadA (σ : St) (t : TypeId) (x : AV) : Option AV :=
  match x with
  | .ptr (some (b, o)) => match σ.heap.get b with
    | some ob => match aggB P t with
      | some true => match szB P t with
        | some n => (rdN ob o n).map .agg
        | none => none
      | some false => rdO ob o
      | none => none
    | none => none
  | _ => none
noncomputable def byteL : List AV → Option (List UInt8)
  | [] => some []
  | .int .u8 (.ofNat m) :: r => bif Nat.blt m 256 then (match byteL r with
    | some l => some (UInt8.ofNat m :: l)
    | none => none) else none
  | _ => none
noncomputable def bytesA (σ : St) (s d : TypeId) (x : AV) : Option AV :=
  match P.underlying s, P.underlying d, x with
  | some (.slice e), some .string, .slc (some (b, o)) n _ _ => match P.underlying e, σ.heap.get b with
    | some (.int .u8), some ob => match rdN ob o n with
      | some vs => match byteL vs with
        | some l => some (.str l)
        | none => none
      | none => none
    | _, _ => none
  | _, _, _ => none
noncomputable def keyEq : AV → AV → Option Bool
  | .int k a, .int k' b => bif decide (k = k') then some (a == b) else none
  | .str a, .str b => some (eqL a b)
  | _, _ => none
noncomputable def findA (k : AV) : List (AV × AV × Nat) → Nat → Option (Option (Nat × AV))
  | [], _ => some none
  | e :: es, i => match keyEq k e.1 with
    | some true => some (some (i, e.2.1))
    | some false => findA k es (i + 1)
    | none => none
noncomputable def keyOk (t : TypeId) (k : AV) : Bool :=
  match P.underlying t, k with
  | some (.int _), .int _ _ => true
  | some .string, .str _ => true
  | _, _ => false
noncomputable def mapEs (σ : St) : Option Nat → Option (List (AV × AV × Nat))
  | none => some []
  | some b => match σ.heap.get b with
    | some (.map es _) => some es
    | _ => none
noncomputable def lookupA (σ : St) (t : TypeId) (m k : AV) (ok : Bool) : Option AV :=
  match P.underlying t, m with
  | some (.map kt et), .map r => bif keyOk P kt k then
      (match mapEs σ r with
      | some es => match findA k es 0 with
        | some (some (_, v)) => some (bif ok then .tup [v, .bool true] else v)
        | some none => (zeroA P et).map fun z => bif ok then .tup [z, .bool false] else z
        | none => none
      | none => none) else none
  | _, _ => none
noncomputable def mlenA (σ : St) (t : TypeId) (m : AV) : Option AV :=
  match P.underlying t, m with
  | some (.map _ _), .map none => some (.int .i64 0)
  | some (.map _ _), .map (some b) => match σ.heap.get b with
    | some (.map es _) => some (.int .i64 es.length)
    | _ => none
  | _, _ => none
/-- What an operation reads. -/
noncomputable def opR (tm : Tm) (σ : St) (o : Oper) : Option AV :=
  match o.op with
  | .build t parts => match partsA tm parts.toList with
    | some ps => buildA P t ps
    | none => none
  | .load t x => match aev tm x with
    | some v => loadA P σ t v
    | none => none
  | .convert s d x => match aev tm x with
    | some v => bytesA P σ s d v
    | none => none
  | .lookup t m k ok => match aev tm m, aev tm k with
    | some m, some k => lookupA P σ t m k ok
    | _, _ => none
  | .call ⟨.builtin .len, args, ts⟩ => match avs tm args.toList, ts[0]? with
    | some [m], some t => mlenA P σ t m
    | _, _ => none
  | _ => none
noncomputable def repA (zl : List AV) : List Nat → Option (List AV)
  | [] => some []
  | i :: is => match zl[Nat.mod i zl.length]?, repA zl is with
    | some v, some vs => some (v :: vs)
    | _, _ => none
noncomputable def bsliceA (t : TypeId) (len : Nat) (parts : List (Nat × AV)) : Option (TypeId × List AV) :=
  match P.underlying t with
  | some (.slice e) => match P.info? e with
    | some ie => match ie.zero with
      | some z => match absL z.cells.toList with
        | some zl => bif Nat.ble (len * ie.size) 16777216 then
            (match repA zl (List.range (len * ie.size)) with
            | some init => match fillA (fun i => some (i * ie.size, ie.size)) init parts with
              | some out => some (e, out)
              | none => none
            | none => none) else none
        | none => none
      | none => none
    | none => none
  | _ => none
noncomputable def msliceA (t : TypeId) (l c : Nat) : Option AO :=
  match P.underlying t with
  | some (.slice e) => match P.info? e with
    | some ie => match ie.zero with
      | some z => match absL z.cells.toList with
        | some zl => bif Nat.ble l c && (Nat.ble (ie.bytes * c) 140737488355328 && (Nat.ble c 1000000000 && Nat.ble (c * ie.size) 16777216)) then
            (match zl, ie.size with
            | [zv], 1 => some (.cells c .e e (some zv) false)
            | zl, s => match repA zl (List.range (c * s)) with
              | some init => aoL e init
              | none => none) else none
        | none => none
      | none => none
    | none => none
  | _ => none
/-- What an operation makes: its value and the new block. -/
noncomputable def opA (tm : Tm) (nx : Nat) (o : Oper) : Option (AV × AO) :=
  match o.op with
  | .alloc e => match zeroA P e with
    | some z => (aoL e z.cells).map fun ob => (.ptr (some (nx, 0)), ob)
    | none => none
  | .box e x => match aev tm x with
    | some v => (aoL e v.cells).map fun ob => (.ptr (some (nx, 0)), ob)
    | none => none
  | .buildSlice t len parts => match partsA tm parts.toList with
    | some ps => match bsliceA P t len ps with
      | some (e, out) => (aoL e out).map fun ob => (.slc (some (nx, 0)) len len true, ob)
      | none => none
    | none => none
  | .makeSlice t l c => match aev tm l, aev tm c with
    | some vl, some vc => match ixOf vl, ixOf vc with
      | some l, some c => (msliceA P t l c).map fun ob => (.slc (some (nx, 0)) l c true, ob)
      | _, _ => none
    | _, _ => none
  | .makeMap _ none => some (.map (some nx), .map [] 0)
  | _ => none
end

/-! ### what the model does -/
section
variable {P : Program} {w : World} {E : Env} {tm : Tm} {a : Act} {σ : St}
theorem parts_conc (ht : TmR E tm a.tmps) : ∀ {ps : List (Nat × Operand)} {vs : List (Nat × AV)}, partsA tm ps = some vs →
    vs.length = (ps.map fun p => (p.1, a.eval p.2)).length ∧ ∀ (j i : Nat) (v : AV), vs[j]? = some (i, v) → ∃ c, (ps.map fun p => (p.1, a.eval p.2))[j]? = some (i, c) ∧ conc E v = some c
  | [], vs, h => by
    simp only [partsA, Option.some.injEq] at h
    subst h
    exact ⟨rfl, fun j i v hj => by simp at hj⟩
  | (i, x) :: r, vs, h => by
    unfold partsA at h
    split at h
    · next v us h1 h2 =>
      injection h with h
      subst h
      obtain ⟨h3, h4⟩ := parts_conc ht h2
      refine ⟨by simpa using h3, fun j i' v' hj => ?_⟩
      cases j with
      | zero =>
        simp only [List.getElem?_cons_zero, Option.some.injEq, Prod.mk.injEq] at hj
        obtain ⟨rfl, rfl⟩ := hj
        exact ⟨a.eval x, rfl, aev_conc ht h1⟩
      | succ j =>
        simp only [List.getElem?_cons_succ] at hj
        obtain ⟨c, h5, h6⟩ := h4 j i' v' hj
        exact ⟨c, by simpa using h5, h6⟩
    · cases h
theorem build_sound (ht : TmR E tm a.tmps) {t : TypeId} {parts : Array (Nat × Operand)} {ps : List (Nat × AV)} {v : AV} (hp : partsA tm parts.toList = some ps) (h : buildA P t ps = some v) :
    ∃ c, (Instr.build t (parts.map fun (i, x) => (i, a.eval x))).run P w = .ok c w ∧ conc E v = some c := by
  obtain ⟨hl, hg⟩ := parts_conc ht hp
  have hpl : (parts.map fun (i, x) => (i, a.eval x)).toList = parts.toList.map fun p => (p.1, a.eval p.2) := by simp
  unfold buildA at h
  split at h <;> first | (cases h; done) | skip
  · next it n e hi hu =>
    split at h <;> first | (cases h; done) | skip
    next z ie hz he =>
    split at h <;> first | (cases h; done) | skip
    next zl hzl =>
    obtain ⟨out, ho, rfl⟩ := Option.map_eq_some_iff.1 h
    obtain ⟨es, h1, h2⟩ := fill_sound (ds := z.cells) ho hl hg (absL_conc E hzl)
    refine ⟨.agg es, run_build w t _ es ?_, by simp [conc, h2]⟩
    rw [hpl]
    simp only [Program.built, hi, hu, hz, he, h1]
  · next it fs hi hu =>
    split at h <;> first | (cases h; done) | skip
    next z pl hz hpl2 =>
    split at h <;> first | (cases h; done) | skip
    next zl hzl =>
    obtain ⟨out, ho, rfl⟩ := Option.map_eq_some_iff.1 h
    obtain ⟨es, h1, h2⟩ := fill_sound (ds := z.cells) ho hl hg (absL_conc E hzl)
    refine ⟨.agg es, run_build w t _ es ?_, by simp [conc, h2]⟩
    rw [hpl]
    simp only [Program.built, hi, hu, hz, hpl2, h1]
theorem load_sound (hR : Rel P E σ w) {t : TypeId} {x v : AV} {cx : Value} (h : loadA P σ t x = some v) (hx : conc E x = some cx) : ∃ c, (Instr.loadAt t cx).run P w = .ok c w ∧ conc E v = some c := by
  unfold loadA at h
  split at h <;> first | (cases h; done) | skip
  next b o =>
  simp only [conc, Option.map_eq_some_iff] at hx
  obtain ⟨r, hr, rfl⟩ := hx
  split at h <;> first | (cases h; done) | skip
  next ob hb =>
  split at h <;> first | (cases h; done) | skip
  · next ha =>
    split at h <;> first | (cases h; done) | skip
    next n hs =>
    obtain ⟨vs, hv, rfl⟩ := Option.map_eq_some_iff.1 h
    obtain ⟨cs, h1, h2, h3⟩ := rd_cells hR hb hr n o vs hv
    obtain ⟨s1, -, -⟩ := szB_run hs w
    refine ⟨.agg cs.toArray, ?_, by simp [conc, h3]⟩
    have hl : (loadCells ⟨r.1, o, none⟩ cs.length).run P w = .ok cs.toArray w :=
      run_loadCells_list (P := P) w ⟨r.1, o, none⟩ cs (fun j v hv => by rw [Addr.add_mid]; exact h2 j v hv)
    rw [h1] at hl
    simp only [Instr.loadAt, Instr.sureAddr, Sem.run_bind, Sem.run_pure, Result.andThen_ok, loadVar, aggB_run ha w, if_true, s1, hl]
  · next ha =>
    obtain ⟨c, h1, h2⟩ := rd_cell hR hb hr h
    refine ⟨c, ?_, h2⟩
    simp only [Instr.loadAt, Instr.sureAddr, Sem.run_bind, Sem.run_pure, Result.andThen_ok, loadVar, aggB_run ha w, Bool.false_eq_true, if_false, run_load, h1]
theorem byteL_get : ∀ {vs : List AV} {l : List UInt8}, byteL vs = some l → l.length = vs.length ∧ ∀ j (hj : j < l.length), vs[j]? = some (.int .u8 (l[j].toNat : Int))
  | [], l, h => by simp only [byteL, Option.some.injEq] at h; subst h; exact ⟨rfl, fun j hj => by simp at hj⟩
  | v :: vs, l, h => by
    unfold byteL at h
    split at h
    · next hh => cases hh
    · next m r hh =>
      injection hh with h1 h2
      subst h1 h2
      cases hb : Nat.blt m 256 with
      | false => rw [hb] at h; cases h
      | true =>
        rw [hb] at h
        simp only [cond_true] at h
        split at h <;> first | (cases h; done) | skip
        next l' hl' =>
        injection h with h
        subst h
        obtain ⟨h3, h4⟩ := byteL_get hl'
        refine ⟨by simp [h3], fun j hj => ?_⟩
        cases j with
        | zero =>
          have := blt_lt hb
          have e : (UInt8.ofNat m).toNat = m := by simp; omega
          simp [e]
        | succ j =>
          have := h4 j (by simpa using hj)
          simpa using this
    · cases h
theorem bytes_sound (hR : Rel P E σ w) {s d : TypeId} {x v : AV} {cx : Value} (h : bytesA P σ s d x = some v) (hx : conc E x = some cx) : ∃ c, (convert s d cx).run P w = .ok c w ∧ conc E v = some c := by
  unfold bytesA at h
  split at h <;> first | (cases h; done) | skip
  next e b o n cp ex hu hd =>
  split at h <;> first | (cases h; done) | skip
  next ob he hb =>
  split at h <;> first | (cases h; done) | skip
  next vs hv =>
  split at h <;> first | (cases h; done) | skip
  next l hl =>
  injection h with h
  subst h
  simp only [conc, Option.map_eq_some_iff] at hx
  obtain ⟨r, hr, rfl⟩ := hx
  obtain ⟨cs, h1, h2, h3⟩ := rd_cells hR hb hr n o vs hv
  obtain ⟨h4, h5⟩ := byteL_get hl
  have h6 : l.length = n := by have := concs_length h3; omega
  refine ⟨.string ⟨l.toArray⟩, ?_, by simp [conc]⟩
  have := run_convert_bytes_back (P := P) w s d e ⟨r.1, o, none⟩ (if ex then cp else cp + r.2) l hu he hd (fun j hj => by
    obtain ⟨c, h7, h8⟩ := concs_get h3 (h5 j hj)
    simp only [conc, Option.some.injEq] at h8
    rw [Addr.add_mid, h8]
    exact h2 j c h7)
  rwa [h6] at this
end
end Go.Proofs.YtopbojifllnckaaGreatDoor
namespace Go.Proofs.YtopbojifllnckaaGreatDoor
section
variable {P : Program} {w : World} {E : Env} {tm : Tm} {a : Act} {σ : St}
theorem keyEq_now {d : TypeDesc} {x y : AV} {cx cy : Value} {b : Bool} (hd : (∃ k, d = .int k) ∧ (∃ k n, x = .int k n) ∨ d = .string ∧ (∃ l, x = .str l)) (h : keyEq x y = some b) (hx : conc E x = some cx) (hy : conc E y = some cy) : Instr.sameNow d cx cy = some b := by
  unfold keyEq at h
  split at h
  · next k n k' n' =>
    simp only [conc, Option.some.injEq] at hx hy
    subst hx hy
    cases hk : decide (k = k') with
    | false => rw [hk] at h; cases h
    | true =>
      rw [hk] at h
      have := of_decide_eq_true hk
      subst this
      simp only [cond_true] at h
      rcases hd with ⟨⟨q, rfl⟩, -⟩ | ⟨-, l, hl⟩
      · simpa [Instr.sameNow] using h
      · cases hl
  · next l l' =>
    simp only [conc, Option.some.injEq] at hx hy
    subst hx hy
    rcases hd with ⟨-, k, n, hl⟩ | ⟨rfl, -⟩
    · cases hl
    · rw [eqL_eq] at h
      simp only [Instr.sameNow]
      rw [← h]
      congr 1
      show (l.toArray == l'.toArray) = _
      simp
  · cases h
theorem find_now {d : TypeDesc} {k : AV} {ck : Value} (hd : (∃ q, d = .int q) ∧ (∃ q n, k = .int q n) ∨ d = .string ∧ (∃ l, k = .str l)) (hk : conc E k = some ck) :
    ∀ {es : List (AV × AV × Nat)} {cs : List MapEntry} {i : Nat} {r : Option (Nat × AV)}, findA k es i = some r → cs.length = es.length →
      (∀ (j : Nat) (x v : AV) (n : Nat), es[j]? = some (x, v, n) → ∃ m : MapEntry, cs[j]? = some m ∧ conc E x = some m.key ∧ conc E v = some m.val ∧ m.born = n) →
      ∃ r', Instr.findNow d ck cs i = some r' ∧ (match r with
        | none => r' = none
        | some (j, v) => ∃ c, r' = some (j, c) ∧ conc E v = some c)
  | [], cs, i, r, h, hl, _ => by
    obtain rfl : cs = [] := by cases cs <;> simp_all
    simp only [findA, Option.some.injEq] at h
    subst h
    exact ⟨none, rfl, rfl⟩
  | (x, v, n) :: es, cs, i, r, h, hl, hg => by
    obtain ⟨m, h1, h2, h3, h4⟩ := hg 0 x v n rfl
    cases cs with
    | nil => cases h1
    | cons m' cs =>
      simp only [List.getElem?_cons_zero, Option.some.injEq] at h1
      subst h1
      unfold findA at h
      unfold Instr.findNow
      split at h
      · next he =>
        injection h with h
        subst h
        rw [keyEq_now hd he hk h2]
        exact ⟨_, rfl, m'.val, rfl, h3⟩
      · next he =>
        rw [keyEq_now hd he hk h2]
        exact find_now hd hk h (by simpa using hl) (fun j x' v' n' hj => by simpa using hg (j + 1) x' v' n' (by simpa using hj))
      · cases h
theorem keyOk_spec {t : TypeId} {k : AV} {ck : Value} (h : keyOk P t k = true) (hk : conc E k = some ck) : ∃ d, P.underlying t = some d ∧ ((∃ q, d = .int q) ∧ (∃ q n, k = .int q n) ∨ d = .string ∧ (∃ l, k = .str l)) ∧ ∀ (e : Bool) (n : Nat), (Instr.checkKey e (n + 1) t ck).run P w = .ok () w := by
  unfold keyOk at h
  split at h
  · next q q' n hu =>
    refine ⟨_, hu, Or.inl ⟨⟨_, rfl⟩, _, _, rfl⟩, fun e n => ?_⟩
    simp only [Instr.checkKey, Sem.run_bind, run_underlying hu, Result.andThen_ok]
    rfl
  · next l hu =>
    refine ⟨_, hu, Or.inr ⟨rfl, _, rfl⟩, fun e n => ?_⟩
    simp only [Instr.checkKey, Sem.run_bind, run_underlying hu, Result.andThen_ok]
    rfl
  · cases h
/-- A map's entries, as the model has them. -/
theorem map_block (hR : Rel P E σ w) {b : Nat} {es : List (AV × AV × Nat)} {ck : Nat} {r : Nat × Nat} (hb : σ.heap.get b = some (.map es ck)) (hr : E b = some r) :
    ∃ cs : List MapEntry, w.heap[r.1]? = some (.map cs.toArray ck) ∧ cs.length = es.length ∧ ∀ (i : Nat) (k v : AV) (n : Nat), es[i]? = some (k, v, n) → ∃ m : MapEntry, cs[i]? = some m ∧ conc E k = some m.key ∧ conc E v = some m.val ∧ m.born = n := by
  obtain ⟨ob, h1, cs, rfl, -, h3, h4⟩ := hR.obj b _ hb r hr
  exact ⟨cs, h1, h3, h4⟩
theorem getObj_map {r : Nat} {es : Array MapEntry} {c : Nat} (h : w.heap[r]? = some (.map es c)) : (getObj r).run P w = .ok (.map es c) w := by
  simp [getObj, Sem.run, h]
theorem getEs_run (hR : Rel P E σ w) {r : Option Nat} {es : List (AV × AV × Nat)} {cm : Value} (h : mapEs σ r = some es) (hm : conc E (.map r) = some cm) :
    ∃ cs : List MapEntry, ((cm = .map none ∧ cs = []) ∨ ∃ rr c, cm = .map (some rr) ∧ w.heap[rr]? = some (.map cs.toArray c)) ∧ cs.length = es.length ∧ ∀ (i : Nat) (k v : AV) (n : Nat), es[i]? = some (k, v, n) → ∃ m : MapEntry, cs[i]? = some m ∧ conc E k = some m.key ∧ conc E v = some m.val ∧ m.born = n := by
  cases r with
  | none =>
    simp only [conc, mapEs, Option.some.injEq] at hm h
    subst hm h
    exact ⟨[], Or.inl ⟨rfl, rfl⟩, rfl, fun i k v n hi => by simp at hi⟩
  | some b =>
    simp only [conc, Option.map_eq_some_iff] at hm
    obtain ⟨r, hr, rfl⟩ := hm
    unfold mapEs at h
    simp only at h
    split at h <;> first | (cases h; done) | skip
    next es' c' hb =>
    injection h with h
    subst h
    obtain ⟨cs, h1, h2, h3⟩ := map_block hR hb hr
    exact ⟨cs, Or.inr ⟨_, _, rfl, h1⟩, h2, h3⟩
theorem lookup_sound (hR : Rel P E σ w) {t : TypeId} {m k v : AV} {ok : Bool} {cm ck : Value} (h : lookupA P σ t m k ok = some v) (hm : conc E m = some cm) (hk : conc E k = some ck) :
    ∃ c, (Instr.lookup t cm ck ok).run P w = .ok c w ∧ conc E v = some c := by
  unfold lookupA at h
  split at h <;> first | (cases h; done) | skip
  next kt et r hu =>
  cases hko : keyOk P kt k with
  | false => rw [hko] at h; cases h
  | true =>
    rw [hko] at h
    simp only [cond_true] at h
    obtain ⟨d, hd, hdk, hck⟩ := keyOk_spec (w := w) hko hk
    split at h <;> first | (cases h; done) | skip
    next es hes =>
    obtain ⟨cs, h4, h2, h3⟩ := getEs_run hR hes hm
    have e1 : (Instr.lookup t cm ck ok).run P w = ((do
        Instr.checkKey (cs.toArray : Array MapEntry).isEmpty 10000 kt ck
        let (v, okk) ← match ← Instr.findKey kt ck (cs.toArray : Array MapEntry).toList with
          | some (_, v) => pure (v, true)
          | none => pure (← zeroValue et, false)
        pure (if ok then .tuple #[v, .bool okk] else v) : Sem Value)).run P w := by
      unfold Instr.lookup
      rw [Sem.run_bind, run_underlying hu]
      simp only [Result.andThen_ok]
      rcases h4 with ⟨rfl, rfl⟩ | ⟨rr, c, rfl, h4⟩
      · rfl
      · simp only [Sem.run_bind, getObj_map h4, Result.andThen_ok, Sem.run_pure]
        rfl
    rw [e1]
    split at h
    · next j v' hf =>
      injection h with h
      subst h
      obtain ⟨r', h5, c, rfl, h6⟩ := find_now hdk hk hf h2 h3
      have hfk : (Instr.findKey kt ck cs).run P w = .ok (some (j, c)) w := by
        unfold Instr.findKey
        rw [Sem.run_bind, run_underlying hd]
        simp only [Result.andThen_ok, h5]
        rfl
      refine ⟨if ok then .tuple #[c, .bool true] else c, ?_, ?_⟩
      · simp only [Sem.run_bind, hck _ 9999, Result.andThen_ok, hfk, Sem.run_pure]
      · cases ok <;> simp [conc, concs, h6]
    · next hf =>
      obtain ⟨z, hz, rfl⟩ := Option.map_eq_some_iff.1 h
      obtain ⟨c, h7, h8, -⟩ := zero_run hz w
      obtain ⟨r', h5, h6⟩ := find_now hdk hk hf h2 h3
      simp only at h6
      subst h6
      have hfk : (Instr.findKey kt ck cs).run P w = .ok none w := by
        unfold Instr.findKey
        rw [Sem.run_bind, run_underlying hd]
        simp only [Result.andThen_ok, h5]
        rfl
      refine ⟨if ok then .tuple #[c, .bool false] else c, ?_, ?_⟩
      · simp only [Sem.run_bind, hck _ 9999, Result.andThen_ok, hfk, h7, Sem.run_pure]
      · cases ok <;> simp [conc, concs, h8]
    · cases h
theorem mlen_sound (hR : Rel P E σ w) {t : TypeId} {m v : AV} {cm : Value} {ts : Array TypeId} (hts : ts[0]? = some t) (ty : TypeId) (h : mlenA P σ t m = some v) (hm : conc E m = some cm) :
    ∃ c, (Builtin.len_ ts ty #[cm]).run P w = .ok c w ∧ conc E v = some c := by
  unfold mlenA at h
  split at h <;> first | (cases h; done) | skip
  · next k e hu =>
    simp only [Option.some.injEq, conc] at h hm
    subst h hm
    exact ⟨.int .i64 0, by simp [Builtin.len_, hts, run_underlying hu, goInt], rfl⟩
  · next k e b hu =>
    split at h <;> first | (cases h; done) | skip
    next es c hb =>
    simp only [Option.some.injEq, conc, Option.map_eq_some_iff] at h hm
    obtain ⟨r, hr, rfl⟩ := hm
    subst h
    obtain ⟨cs, h1, h2, -⟩ := map_block hR hb hr
    exact ⟨.int .i64 es.length, by simp [Builtin.len_, hts, run_underlying hu, getObj_map h1, goInt, h2], rfl⟩
theorem opR_sound (hR : Rel P E σ w) (ht : TmR E tm a.tmps) {o : Oper} {v : AV} (h : opR P tm σ o = some v) : ∃ c, (execOp a.eval o).run P w = .ok (.value c) w ∧ conc E v = some c := by
  obtain ⟨dst, op, ty, pos, after, guard⟩ := o
  unfold opR at h
  simp only at h
  split at h
  · next t parts =>
    split at h <;> first | (cases h; done) | skip
    next ps hp =>
    obtain ⟨c, h1, h2⟩ := build_sound (P := P) (w := w) ht hp h
    exact ⟨c, by simp only [execOp]; rw [Sem.run_bind, h1]; rfl, h2⟩
  · next t x =>
    split at h <;> first | (cases h; done) | skip
    next vx hx =>
    obtain ⟨c, h1, h2⟩ := load_sound hR h (aev_conc ht hx)
    exact ⟨c, by simp only [execOp]; rw [Sem.run_bind, h1]; rfl, h2⟩
  · next s d x =>
    split at h <;> first | (cases h; done) | skip
    next vx hx =>
    obtain ⟨c, h1, h2⟩ := bytes_sound hR h (aev_conc ht hx)
    exact ⟨c, by simp only [execOp]; rw [Sem.run_bind, h1]; rfl, h2⟩
  · next t m k ok =>
    split at h <;> first | (cases h; done) | skip
    next vm vk hm hk =>
    obtain ⟨c, h1, h2⟩ := lookup_sound hR h (aev_conc ht hm) (aev_conc ht hk)
    exact ⟨c, by simp only [execOp]; rw [Sem.run_bind, h1]; rfl, h2⟩
  · next args ts =>
    split at h <;> first | (cases h; done) | skip
    next m t hm hts =>
    have e1 := avs_concs ht hm
    obtain ⟨c1, es, h3, h4, h5⟩ := concs_cons e1
    obtain rfl := concs_nil h5
    obtain ⟨c, h1, h2⟩ := mlen_sound hR hts ty h h4
    refine ⟨c, ?_, h2⟩
    have e2 : args.map a.eval = #[c1] := by apply Array.ext'; simpa using h3
    simp only [execOp, resolve, Sem.run_bind, Sem.run_pure, Result.andThen_ok, invoke, builtin, e2, h1]
  · cases h
end
end Go.Proofs.YtopbojifllnckaaGreatDoor
namespace Go.Proofs.YtopbojifllnckaaGreatDoor
section
variable {P : Program} {w : World} {E : Env} {tm : Tm} {a : Act} {σ : St}
theorem rep_conc {zl : List AV} {zc : Array Value} (hz : concs E zl = some zc.toList) : ∀ {is : List Nat} {out : List AV}, repA zl is = some out → concs E out = some (is.map fun i => zc[i % zc.size]!)
  | [], out, h => by simp only [repA, Option.some.injEq] at h; subst h; rfl
  | i :: is, out, h => by
    unfold repA at h
    split at h <;> first | (cases h; done) | skip
    next v vs h1 h2 =>
    injection h with h
    subst h
    obtain ⟨c, h3, h4⟩ := concs_get hz h1
    have hl : zl.length = zc.size := by have := concs_length hz; simpa using this.symm
    refine concs_cons_mk ?_ (rep_conc hz h2)
    rw [h4]
    have e : Nat.mod i zl.length = i % zc.size := by rw [hl]; rfl
    rw [e] at h3
    have h5 : zc[i % zc.size]? = some c := by simpa using h3
    show some c = some (zc[i % zc.size]!)
    rw [getElem!_def, h5]
/-- What a make of a block comes to. -/
def MadeBy (P : Program) (E : Env) (w : World) (a : Act) (o : Oper) (nx : Nat) (v : AV) (ob : AO) : Prop :=
  ∃ (c : Value) (obj : Obj), (execOp a.eval o).run P w = .ok (.value c) (w.alloc obj) ∧ ObjOK P E 0 ob obj ∧ ∀ E' : Env, E' nx = some (w.heap.size, 0) → conc E' v = some c
theorem run_newRow (e : TypeId) (cs : Array Value) (w : World) : (newRow e cs).run P w = .ok ⟨w.heap.size, 0, none⟩ (w.alloc (.cells cs e)) := by
  simp only [newRow, Sem.run_bind, run_newObj_alloc, Result.andThen_ok, Sem.run_pure]
theorem opA_sound (ht : TmR E tm a.tmps) {o : Oper} {nx : Nat} {v : AV} {ob : AO} (h : opA P tm nx o = some (v, ob)) : MadeBy P E w a o nx v ob := by
  obtain ⟨dst, op, ty, pos, after, guard⟩ := o
  unfold opA at h
  simp only at h
  split at h
  · next e =>
    split at h <;> first | (cases h; done) | skip
    next z hz =>
    obtain ⟨ob', h1, h2⟩ := Option.map_eq_some_iff.1 h
    obtain ⟨rfl, rfl⟩ := Prod.mk.inj h2
    obtain ⟨c, h3, h4, -⟩ := zero_run hz w
    refine ⟨.pointer (some ⟨w.heap.size, 0, none⟩), .cells c.cells e, ?_, ?_, fun E' hE => by simp [conc, hE]⟩
    · simp only [execOp]
      rw [Sem.run_bind]
      unfold Instr.alloc
      simp only [Sem.run_bind, h3, Result.andThen_ok, newVar, run_newRow, Sem.run_pure]
    · have := aoL_ok (P := P) h1 (cells_conc (h4 E))
      simpa using this
  · next e x =>
    split at h <;> first | (cases h; done) | skip
    next vx hx =>
    obtain ⟨ob', h1, h2⟩ := Option.map_eq_some_iff.1 h
    obtain ⟨rfl, rfl⟩ := Prod.mk.inj h2
    refine ⟨.pointer (some ⟨w.heap.size, 0, none⟩), .cells (a.eval x).cells e, ?_, ?_, fun E' hE => by simp [conc, hE]⟩
    · simp only [execOp, Instr.box, newVar, Sem.run_bind, run_newRow, Result.andThen_ok, Sem.run_pure]
    · have := aoL_ok (P := P) h1 (cells_conc (aev_conc ht hx))
      simpa using this
  · next t len parts =>
    split at h <;> first | (cases h; done) | skip
    next ps hp =>
    split at h <;> first | (cases h; done) | skip
    next e out hb =>
    obtain ⟨ob', h1, h2⟩ := Option.map_eq_some_iff.1 h
    obtain ⟨rfl, rfl⟩ := Prod.mk.inj h2
    obtain ⟨hl, hg⟩ := parts_conc ht hp
    have hpl : (parts.map fun (i, x) => (i, a.eval x)).toList = parts.toList.map fun p => (p.1, a.eval p.2) := by simp
    unfold bsliceA at hb
    split at hb <;> first | (cases hb; done) | skip
    next e' hu =>
    split at hb <;> first | (cases hb; done) | skip
    next ie hi =>
    split at hb <;> first | (cases hb; done) | skip
    next z hz =>
    split at hb <;> first | (cases hb; done) | skip
    next zl hzl =>
    cases hc : Nat.ble (len * ie.size) 16777216 with
    | false => rw [hc] at hb; cases hb
    | true =>
      rw [hc] at hb
      simp only [cond_true] at hb
      split at hb <;> first | (cases hb; done) | skip
      next init hini =>
      split at hb <;> first | (cases hb; done) | skip
      next out' hf =>
      injection hb with hb
      obtain ⟨rfl, rfl⟩ := Prod.mk.inj hb
      have hzc : concs E zl = some z.cells.toList := absL_conc E hzl
      have hin := rep_conc hzc hini
      have hrow : ((Array.range (len * ie.size)).map ((if len * ie.size = 0 then #[] else z.cells)[· % (if len * ie.size = 0 then #[] else z.cells).size]!)).toList = (List.range (len * ie.size)).map fun i => z.cells[i % z.cells.size]! := by
        by_cases h0 : len * ie.size = 0
        · rw [h0]; simp
        · simp only [if_neg h0]; simp
      obtain ⟨es, h3, h4⟩ := fill_sound (ds := (Array.range (len * ie.size)).map ((if len * ie.size = 0 then #[] else z.cells)[· % (if len * ie.size = 0 then #[] else z.cells).size]!)) hf hl hg (by rw [hrow]; exact hin)
      rw [← hpl] at h3
      have hle := ble_le hc
      refine ⟨.slice (some ⟨w.heap.size, 0, none⟩) len len, .cells es e', ?_, ?_, fun E' hE => by simp [conc, hE]⟩
      · simp only [execOp]
        rw [Sem.run_bind]
        have e1 : (Instr.buildSlice t len (parts.map fun (i, x) => (i, a.eval x))).run P w = .ok (.slice (some ⟨w.heap.size, 0, none⟩) len len) (w.alloc (.cells es e')) := by
          unfold Instr.buildSlice
          have hsz : (sizeOf e').run P w = .ok ie.size w := by simp [sizeOf, typeInfo, hi]
          rw [Sem.run_bind, run_underlying hu]
          simp only [Result.andThen_ok, Sem.run_bind, hsz]
          rw [if_neg (by omega)]
          by_cases h0 : len * ie.size = 0
          · simp only [if_pos h0] at h3
            rw [if_pos h0]
            simp only [Sem.run_bind, Sem.run_pure, Result.andThen_ok, h3, run_newRow]
          · simp only [if_neg h0] at h3
            rw [if_neg h0]
            have hzv : (zeroValue e').run P w = .ok z w := by simp [zeroValue, typeInfo, hi, hz]
            simp only [Sem.run_bind, hzv, Sem.run_pure, Result.andThen_ok, h3, run_newRow]
        rw [e1]
        rfl
      · have := aoL_ok (P := P) h1 h4
        simpa using this
  · next t l c =>
    split at h <;> first | (cases h; done) | skip
    next vl vc hl hc =>
    split at h <;> first | (cases h; done) | skip
    next l' c' hl' hc' =>
    obtain ⟨ob', h1, h2⟩ := Option.map_eq_some_iff.1 h
    obtain ⟨rfl, rfl⟩ := Prod.mk.inj h2
    obtain ⟨kl, hkl⟩ := ixOf_int hl' (aev_conc ht hl)
    obtain ⟨kc, hkc⟩ := ixOf_int hc' (aev_conc ht hc)
    unfold msliceA at h1
    split at h1 <;> first | (cases h1; done) | skip
    next e hu =>
    split at h1 <;> first | (cases h1; done) | skip
    next ie hi =>
    split at h1 <;> first | (cases h1; done) | skip
    next z hz =>
    split at h1 <;> first | (cases h1; done) | skip
    next zl hzl =>
    cases hb : (Nat.ble l' c' && (Nat.ble (ie.bytes * c') 140737488355328 && (Nat.ble c' 1000000000 && Nat.ble (c' * ie.size) 16777216))) with
    | false => rw [hb] at h1; cases h1
    | true =>
      rw [hb] at h1
      simp only [cond_true] at h1
      rw [Bool.and_eq_true, Bool.and_eq_true, Bool.and_eq_true] at hb
      have b1 := ble_le hb.1
      have b2 := ble_le hb.2.1
      have b3 := ble_le hb.2.2.1
      have b4 := ble_le hb.2.2.2
      have hzc : concs E zl = some z.cells.toList := absL_conc E hzl
      have hrun := run_makeSlice (P := P) (w := w) t e ie z hu hi hz kl kc (l' : Int) (c' : Int) (by omega) (by omega) (by simpa using b4) (by
        have : ((ie.bytes * c' : Nat) : Int) ≤ 281474976710656 := by omega
        simpa using this) (by omega)
      simp only [Int.toNat_natCast] at hrun
      refine ⟨.slice (some ⟨w.heap.size, 0, none⟩) l' c', .cells (madeCells z.cells (c' * ie.size)) e, ?_, ?_, fun E' hE => by simp [conc, hE]⟩
      · simp only [execOp, hkl, hkc]
        rw [Sem.run_bind, hrun]
        rfl
      · split at h1
        · next zv hsz1 =>
          injection h1 with h1
          subst h1
          have hs1 : ie.size = 1 := by assumption
          obtain ⟨zc1, es1, he1, h5, h6⟩ := concs_cons hzc
          obtain rfl := concs_nil h6
          rw [hs1]
          refine ⟨madeCells z.cells (c' * 1), rfl, by simp [madeCells], fun _ => rfl, fun i v hiv => ?_⟩
          unfold rdO at hiv
          simp only [Tr.get_e] at hiv
          cases hb2 : Nat.blt i c' with
          | false => rw [hb2] at hiv; cases hiv
          | true =>
            rw [hb2] at hiv
            simp only [cond_true, Option.some.injEq] at hiv
            subst hiv
            have hic := blt_lt hb2
            have hzcs : z.cells = #[zc1] := by apply Array.ext'; simpa using he1
            refine ⟨zc1, ?_, h5⟩
            simp [madeCells, hic, hzcs, Nat.mod_one]
        · split at h1 <;> first | (cases h1; done) | skip
          next init hini =>
          have h5 := rep_conc hzc hini
          have := aoL_ok (P := P) h1 h5
          have e2 : (List.map (fun i => z.cells[i % z.cells.size]!) (List.range (c' * ie.size))).toArray = madeCells z.cells (c' * ie.size) := by
            apply Array.ext'
            simp [madeCells]
          rwa [e2] at this
  · next t =>
    injection h with h
    obtain ⟨rfl, rfl⟩ := Prod.mk.inj h
    exact ⟨.map (some w.heap.size), .map #[] 0, by simp [execOp, Instr.makeMap], ⟨[], rfl, rfl, rfl, fun i k v n hi => by simp at hi⟩, fun E' hE => by simp [conc, hE]⟩
  · cases h
end
end Go.Proofs.YtopbojifllnckaaGreatDoor
