/- The evaluator laid out for the kernel: operations. -/
import Derived.Test.YtopbojifllnckaaGreatDoorG14
namespace Go.Proofs.YtopbojifllnckaaGreatDoor
noncomputable def getL (t : Tr AV) (d : Option AV) (n : Nat) : Nat → Option (List AV) := Nat.rec (motive := fun _ => Nat → Option (List AV)) (fun _ => some []) (fun _ ih o => ob1 (Option.rec (motive := fun _ => Option AV) d (fun v => some v) (t.get o)) fun v => ob1 (ih (Nat.add o 1)) fun vs => some (v :: vs)) n
noncomputable def rdF (ob : AO) (o n : Nat) : Option (List AV) := match ob with
  | .cells sz t e d l => bif Nat.ble (Nat.add o n) sz then getL t d n o else rdN (.cells sz t e d l) o n
  | ob => rdN ob o n
theorem getL_eq (sz : Nat) (t : Tr AV) (e : TypeId) (d : Option AV) (l : Bool) : ∀ (n o : Nat), o + n ≤ sz → getL t d n o = rdN (.cells sz t e d l) o n
  | 0, _, _ => rfl
  | n + 1, o, h => by
    have e1 : getL t d (n + 1) o = ob1 (Option.rec (motive := fun _ => Option AV) d (fun v => some v) (t.get o)) fun v => ob1 (getL t d n (o + 1)) fun vs => some (v :: vs) := rfl
    have e2 : rdO (.cells sz t e d l) o = Option.rec (motive := fun _ => Option AV) d (fun v => some v) (t.get o) := by
      unfold rdO
      have : Nat.blt o sz = true := by
        have e : (Nat.blt o sz = true) = (o < sz) := Nat.blt_eq
        exact e.mpr (by omega)
      simp only [this, cond_true]
      cases t.get o <;> rfl
    rw [e1, getL_eq sz t e d l n (o + 1) (by omega), ← e2, rdN]
    cases rdO (.cells sz t e d l) o <;> cases rdN (.cells sz t e d l) (o + 1) n <;> rfl
theorem rdF_eq (ob : AO) (o n : Nat) : rdF ob o n = rdN ob o n := by
  cases ob with
  | cells sz t e d l =>
    show (bif Nat.ble (Nat.add o n) sz then getL t d n o else rdN (.cells sz t e d l) o n) = _
    cases h : Nat.ble (Nat.add o n) sz with
    | false => rfl
    | true => exact getL_eq sz t e d l n o (Nat.le_of_ble_eq_true h)
  | map es c => rfl
  | iter a b c d => rfl
noncomputable def putL (vs : List AV) : Tr AV → Nat → Tr AV := List.rec (motive := fun _ => Tr AV → Nat → Tr AV) (fun t _ => t) (fun v _ ih t o => ih (Tr.put (some v) t o) (Nat.add o 1)) vs
noncomputable def oneL (vs : List AV) : Bool := List.rec (motive := fun _ => Bool) true (fun v _ ih => bif v.one then ih else false) vs
noncomputable def wrF2 (ob : AO) (o : Nat) (vs : List AV) : Option AO := match ob with
  | .cells n t e d l => bif Nat.ble (Nat.add o vs.length) n && (Tr.inB (Nat.add o vs.length) && oneL vs) then some (.cells n (putL vs t o) e d l) else wrN (.cells n t e d l) o vs
  | ob => wrN ob o vs
theorem putL_eq (n : Nat) (e : TypeId) (d : Option AV) (l : Bool) : ∀ (vs : List AV) (t : Tr AV) (o : Nat), o + vs.length ≤ n → o + vs.length < 67108864 → oneL vs = true → some (.cells n (putL vs t o) e d l) = wrN (.cells n t e d l) o vs
  | [], _, _, _, _, _ => rfl
  | v :: vs, t, o, h1, h2, h3 => by
    simp only [List.length_cons] at h1 h2
    have h3' : (bif v.one then oneL vs else false) = true := h3
    obtain ⟨h4, h5⟩ := and_of h3'
    have b1 : Nat.blt o n = true := by
      have e : (Nat.blt o n = true) = (o < n) := Nat.blt_eq
      exact e.mpr (by omega)
    have b2 : Tr.inB o = true := by
      have e : (Nat.blt o 67108864 = true) = (o < 67108864) := Nat.blt_eq
      exact e.mpr (by omega)
    have e1 : wr1 (.cells n t e d l) o v = some (.cells n (Tr.put (some v) t o) e d l) := by
      unfold wr1
      simp only [b1, b2, h4, Bool.and_self, cond_true]
    rw [wrN, e1]
    exact putL_eq n e d l vs (Tr.put (some v) t o) (o + 1) (by omega) (by omega) h5
theorem wrF2_eq (ob : AO) (o : Nat) (vs : List AV) : wrF2 ob o vs = wrN ob o vs := by
  cases ob with
  | cells n t e d l =>
    show (bif Nat.ble (Nat.add o vs.length) n && (Tr.inB (Nat.add o vs.length) && oneL vs) then some (.cells n (putL vs t o) e d l) else wrN (.cells n t e d l) o vs) = _
    cases h : (Nat.ble (Nat.add o vs.length) n && (Tr.inB (Nat.add o vs.length) && oneL vs)) with
    | false => rfl
    | true =>
      simp only [Bool.and_eq_true] at h
      exact putL_eq n e d l vs t o (Nat.le_of_ble_eq_true h.1) (Tr.inB_lt h.2.1) h.2.2
  | map es c => rfl
  | iter a b c d => rfl
section
variable (P : Program)
noncomputable def storeF (σ : St) (t : TypeId) (x v : AV) : Option St :=
  match x with
  | .ptr (some (b, o)) => match σ.heap.get b, szB P t with
    | some ob, some n => bif Nat.beq v.cells.length n && Tr.inB b then (match wrF2 ob o v.cells with
      | some ob' => some (σ.chg b ob')
      | none => none) else none
    | _, _ => none
  | _ => none
noncomputable def copyF (σ : St) (dT : TypeId) (d s : AV) : Option (AV × St) :=
  match P.underlying dT, d with
  | some (.slice e), .slc p n _ _ => match szB P e with
    | some size => match (match s with
        | .str l => bif Nat.beq size 1 then some (Nat.min l.length n, some (byteAV (l.take (Nat.min l.length n)))) else none
        | .slc (some (b, o)) m _ _ => match σ.heap.get b with
          | some ob => some (Nat.min m n, rdF ob o (Nat.min m n * size))
          | none => none
        | .slc none m _ _ => some (Nat.min m n, some [])
        | _ => none) with
      | some (k, some vs) => match p with
        | some (b, o) => match σ.heap.get b with
          | some ob => bif Tr.inB b then (match wrF2 ob o vs with
            | some ob' => some (.int .i64 k, σ.chg b ob')
            | none => none) else none
          | none => none
        | none => some (.int .i64 k, σ)
      | _ => none
    | none => none
  | _, _ => none
noncomputable def bytesF (σ : St) (s d : TypeId) (x : AV) : Option AV :=
  match P.underlying s, P.underlying d, x with
  | some (.slice e), some .string, .slc (some (b, o)) n _ _ => match P.underlying e, σ.heap.get b with
    | some (.int .u8), some ob => match rdF ob o n with
      | some vs => match byteL vs with
        | some l => some (.str l)
        | none => none
      | none => none
    | _, _ => none
  | _, _, _ => none
theorem storeF_eq (σ : St) (t : TypeId) (x v : AV) : storeF P σ t x v = storeA P σ t x v := by
  unfold storeF storeA
  simp only [wrF2_eq]
  rfl
theorem copyF_eq (σ : St) (dT : TypeId) (d s : AV) : copyF P σ dT d s = copyA P σ dT d s := by
  unfold copyF copyA
  simp only [rdF_eq, wrF2_eq]
  rfl
theorem bytesF_eq (σ : St) (s d : TypeId) (x : AV) : bytesF P σ s d x = bytesA P σ s d x := by
  unfold bytesF bytesA
  simp only [rdF_eq]
  rfl
end
section
variable (P : Program)
/-- Values that hang on the slots alone. -/
noncomputable def vP (op : Op) : GC := match op with
  | .move x => aC x
  | .assign x => aC x
  | .pick c a b => ⟨fun tm => match (aC c).get tm with
    | some (.bool t) => bif t then (aC a).get tm else (aC b).get tm
    | _ => none⟩
  | .nilCheck x => ⟨fun tm => ob1 ((aC x).get tm) nilA⟩
  | .binOp op t x y _ => ⟨fun tm => ob2 ((aC x).get tm) ((aC y).get tm) (binC P op t (isConstB x || isConstB y)).run⟩
  | .unOp op _ x => ⟨fun tm => ob1 ((aC x).get tm) (unA op)⟩
  | .convert s d x => ⟨fun tm => ob1 ((aC x).get tm) (convC P s d).run⟩
  | .fieldAddr t x i => ⟨fun tm => ob1 ((aC x).get tm) (faC P t i).run⟩
  | .field t x i => ⟨fun tm => ob1 ((aC x).get tm) fun v => fieldA P t v i⟩
  | .indexAddr t x i => ⟨fun tm => ob2 ((aC x).get tm) ((aC i).get tm) (iaC P t).run⟩
  | .index t x i => ⟨fun tm => ob2 ((aC x).get tm) ((aC i).get tm) (indexA P t)⟩
  | .slice t x lo hi mx => ⟨fun tm => ob1 ((aC x).get tm) fun v => sliceA P tm t v lo hi mx⟩
  | .extract x i => ⟨fun tm => ob1 ((aC x).get tm) (extA i)⟩
  | .typeAssert x _ t ok => ⟨fun tm => ob1 ((aC x).get tm) fun v => assertA P t v ok⟩
  | .makeInterface t x => match P.underlying t with
    | some (.interface _) => ⟨fun _ => none⟩
    | some _ => ⟨fun tm => ob1 ((aC x).get tm) fun v => some (.iface t v)⟩
    | none => ⟨fun _ => none⟩
  | .makeFunc (.func f) a c => ⟨fun tm => match (lC a.toList).get tm, (lC c.toList).get tm with
    | some a, some c => some (.func f a c)
    | _, _ => none⟩
  | .call ⟨.builtin b, args, ts⟩ => ⟨fun tm => ob1 ((lC args.toList).get tm) (builtA P b ts)⟩
  | _ => ⟨fun _ => none⟩
theorem vP_eq (tm : Tm) (o : Oper) : (vP P o.op).get tm = opP P tm o := by
  obtain ⟨dst, op, ty, pos, after, guard⟩ := o
  unfold vP opP
  cases op <;> try rfl
  case move x => exact aC_eq x tm
  case assign x => exact aC_eq x tm
  case pick c a b => simp only [aC_eq]; rfl
  case nilCheck x =>
    simp only [aC_eq, ob1_eq]
    cases aev tm x with
    | none => rfl
    | some v => cases v <;> first | rfl | (next p => cases p <;> rfl)
  case binOp op t x y yt =>
    simp only [aC_eq, ob2_eq, binC_eq]
    cases aev tm x <;> cases aev tm y <;> rfl
  case unOp op t x =>
    simp only [aC_eq, ob1_eq]
    cases aev tm x <;> rfl
  case convert s d x =>
    simp only [aC_eq, ob1_eq, convC_eq]
    cases aev tm x <;> rfl
  case fieldAddr t x i =>
    simp only [aC_eq, ob1_eq, faC_eq]
    cases aev tm x <;> rfl
  case field t x i =>
    simp only [aC_eq, ob1_eq]
    cases aev tm x <;> rfl
  case indexAddr t x i =>
    simp only [aC_eq, ob2_eq, iaC_eq]
    cases aev tm x <;> cases aev tm i <;> rfl
  case index t x i =>
    simp only [aC_eq, ob2_eq]
    cases aev tm x <;> cases aev tm i <;> rfl
  case slice t x lo hi mx =>
    simp only [aC_eq, ob1_eq]
    cases aev tm x <;> rfl
  case extract x i =>
    simp only [aC_eq, ob1_eq]
    cases aev tm x with
    | none => rfl
    | some v => cases v <;> rfl
  case typeAssert x t u ok =>
    simp only [aC_eq, ob1_eq]
    cases aev tm x <;> rfl
  case makeInterface t x =>
    simp only
    cases P.underlying t with
    | none => rfl
    | some u =>
      cases u <;> simp only [aC_eq, ob1_eq] <;> cases aev tm x <;> rfl
  case makeFunc f a c =>
    cases f <;> try rfl
    simp only [lC_eq]
    cases avs tm a.toList <;> cases avs tm c.toList <;> rfl
  case call c =>
    obtain ⟨callee, args, ts⟩ := c
    cases callee <;> try rfl
    next b =>
    simp only [lC_eq, ob1_eq]
    cases avs tm args.toList <;> rfl
structure RC where
  get : Tm → St → Option AV
structure LdC where
  run : St → AV → Option AV
noncomputable def ldC (t : TypeId) : LdC := match aggB P t with
  | some true => match szB P t with
    | some n => ⟨fun σ x => match x with
      | .ptr (some (b, o)) => ob1 (σ.heap.get b) fun ob => (rdF ob o n).map .agg
      | _ => none⟩
    | none => ⟨fun _ _ => none⟩
  | some false => ⟨fun σ x => match x with
      | .ptr (some (b, o)) => ob1 (σ.heap.get b) fun ob => rdO ob o
      | _ => none⟩
  | none => ⟨fun _ _ => none⟩
theorem ldC_eq (t : TypeId) (σ : St) (x : AV) : (ldC P t).run σ x = loadA P σ t x := by
  unfold ldC loadA
  cases ha : aggB P t with
  | none =>
    cases x <;> try rfl
    next p => cases p <;> first | rfl | (next p => simp only; cases σ.heap.get p.1 <;> rfl)
  | some b =>
    cases b with
    | false =>
      cases x <;> try rfl
      next p => cases p <;> first | rfl | (next p => simp only [ob1_eq]; cases σ.heap.get p.1 <;> rfl)
    | true =>
      simp only
      cases hs : szB P t with
      | none =>
        cases x <;> try rfl
        next p => cases p <;> first | rfl | (next p => simp only; cases σ.heap.get p.1 <;> rfl)
      | some n =>
        cases x <;> try rfl
        next p => cases p <;> first | rfl | (next p => simp only [ob1_eq, rdF_eq]; cases σ.heap.get p.1 <;> rfl)
noncomputable def vR (op : Op) : RC := match op with
  | .build t parts => ⟨fun tm _ => ob1 (partsA tm parts.toList) (buildA P t)⟩
  | .load t x => ⟨fun tm σ => ob1 ((aC x).get tm) ((ldC P t).run σ)⟩
  | .convert s d x => ⟨fun tm σ => ob1 ((aC x).get tm) (bytesF P σ s d)⟩
  | .lookup t m k ok => ⟨fun tm σ => ob2 ((aC m).get tm) ((aC k).get tm) fun m k => lookupA P σ t m k ok⟩
  | .call ⟨.builtin .len, args, ts⟩ => ⟨fun tm σ => match (lC args.toList).get tm, ts[0]? with
    | some [m], some t => mlenA P σ t m
    | _, _ => none⟩
  | _ => ⟨fun _ _ => none⟩
theorem vR_eq (tm : Tm) (σ : St) (o : Oper) : (vR P o.op).get tm σ = opR P tm σ o := by
  obtain ⟨dst, op, ty, pos, after, guard⟩ := o
  unfold vR opR
  cases op <;> try rfl
  case build t parts =>
    simp only [ob1_eq]
    cases partsA tm parts.toList <;> rfl
  case load t x =>
    simp only [ob1_eq, aC_eq, ldC_eq]
    cases aev tm x <;> rfl
  case convert s d x =>
    simp only [ob1_eq, aC_eq, bytesF_eq]
    cases aev tm x <;> rfl
  case lookup t m k ok =>
    simp only [ob2_eq, aC_eq]
    cases aev tm m <;> cases aev tm k <;> rfl
  case call c =>
    obtain ⟨callee, args, ts⟩ := c
    cases callee <;> try rfl
    next b =>
    cases b <;> try rfl
    simp only [lC_eq]
    rfl
/-- What kind of operation is it? 0: value; 1: value, else a read; 2: makes; 3: effect; 4: call; 5: none of them. -/
def famO (op : Op) : Nat := match op with
  | .move _ => 0
  | .assign _ => 0
  | .pick _ _ _ => 0
  | .nilCheck _ => 0
  | .binOp _ _ _ _ _ => 0
  | .unOp _ _ _ => 0
  | .fieldAddr _ _ _ => 0
  | .field _ _ _ => 0
  | .indexAddr _ _ _ => 0
  | .index _ _ _ => 0
  | .slice _ _ _ _ _ => 0
  | .extract _ _ => 0
  | .typeAssert _ _ _ _ => 0
  | .makeInterface _ _ => 0
  | .makeFunc _ _ _ => 0
  | .convert _ _ _ => 1
  | .call ⟨.builtin .len, _, _⟩ => 1
  | .build _ _ => 6
  | .load _ _ => 6
  | .lookup _ _ _ _ => 6
  | .alloc _ => 2
  | .box _ _ => 2
  | .buildSlice _ _ _ => 2
  | .makeSlice _ _ _ => 2
  | .makeMap _ _ => 2
  | .store _ _ _ => 3
  | .mapUpdate _ _ _ _ => 3
  | .range _ _ => 3
  | .next _ _ => 3
  | .entry _ => 3
  | .call ⟨.builtin .append, _, _⟩ => 3
  | .call ⟨.builtin .copy, _, _⟩ => 3
  | .call ⟨.builtin .clear, _, _⟩ => 3
  | .call ⟨.builtin _, _, _⟩ => 5
  | .call ⟨.value _, _, _⟩ => 4
  | _ => 5
/-- A step of one operation. -/
noncomputable def stepV (call : CallF) (tm : Tm) (σ : St) (o : Oper) : Option (AV × St) := match callA tm o with
  | some (f, vs) => call f vs σ
  | none => opX P tm σ o
/-- An effect. -/
noncomputable def eC (o : Oper) : Tm → St → Option (AV × St) := match o.op with
  | .store t x y => fun tm σ => ob1 ((aC x).get tm) fun x => ob1 ((aC y).get tm) fun y => ob1 (storeF P σ t x y) fun σ' => some (.tup [], σ')
  | .call ⟨.builtin .copy, args, ts⟩ => fun tm σ => match (lC args.toList).get tm, ts.toList with
    | some [s, x], [dT, _] => copyF P σ dT s x
    | _, _ => none
  | _ => fun tm σ => opE P tm σ o
theorem eC_eq (o : Oper) (tm : Tm) (σ : St) : eC P o tm σ = opE P tm σ o := by
  obtain ⟨dst, op, ty, pos, after, guard⟩ := o
  unfold eC
  cases op <;> try rfl
  case store t x y =>
    simp only [opE, aC_eq, ob1_eq, storeF_eq]
    cases aev tm x <;> cases aev tm y <;> try rfl
    next u v => simp only; cases storeA P σ t u v <;> rfl
  case call c =>
    obtain ⟨callee, args, ts⟩ := c
    cases callee <;> try rfl
    next b =>
    cases b <;> try rfl
    simp only [opE, lC_eq, copyF_eq]
    rfl
structure OC where
  run : CallF → Tm → St → Option (AV × St)
noncomputable def pv (r : Option AV) (σ : St) : Option (AV × St) := Option.rec (motive := fun _ => Option (AV × St)) none (fun v => some (v, σ)) r
theorem pv_eq (r : Option AV) (σ : St) : pv r σ = match r with
  | some v => some (v, σ)
  | none => none := by cases r <;> rfl
noncomputable def addO (σ : St) (r : Option (AV × AO)) : Option (AV × St) := Option.rec (motive := fun _ => Option (AV × St)) none (fun p => bif Tr.inB σ.next then some (p.1, σ.add p.2) else none) r
noncomputable def callC (op : Op) : OC := match op with
  | .call ⟨.value f, args, _⟩ => ⟨fun call tm σ => match (aC f).get tm, (lC args.toList).get tm with
    | some (.func g x y), some vs => call g (x ++ (vs ++ y)) σ
    | _, _ => none⟩
  | _ => ⟨fun _ _ _ => none⟩
noncomputable def slowO (o : Oper) : OC := ⟨fun call tm σ => stepV P call tm σ o⟩
noncomputable def oC (o : Oper) : OC := match famO o.op with
  | 0 => ⟨fun _ tm σ => pv ((vP P o.op).get tm) σ⟩
  | 1 => ⟨fun _ tm σ => Option.rec (motive := fun _ => Option (AV × St)) (pv ((vR P o.op).get tm σ) σ) (fun v => some (v, σ)) ((vP P o.op).get tm)⟩
  | 6 => ⟨fun _ tm σ => pv ((vR P o.op).get tm σ) σ⟩
  | 2 => ⟨fun _ tm σ => addO σ (opA P tm σ.next o)⟩
  | 3 => ⟨fun _ tm σ => eC P o tm σ⟩
  | 4 => callC o.op
  | _ => slowO P o
theorem fam0 {o : Oper} (h : famO o.op = 0) (tm : Tm) (σ : St) (nx : Nat) : callA tm o = none ∧ opR P tm σ o = none ∧ opA P tm nx o = none ∧ opE P tm σ o = none := by
  obtain ⟨dst, op, ty, pos, after, guard⟩ := o
  cases op <;> first | exact ⟨rfl, rfl, rfl, rfl⟩ | (cases h; done) | skip
  next c =>
  obtain ⟨callee, args, ts⟩ := c
  cases callee <;> first | (cases h; done) | skip
  next b => cases b <;> cases h
theorem fam1 {o : Oper} (h : famO o.op = 1) (tm : Tm) (σ : St) (nx : Nat) : callA tm o = none ∧ opA P tm nx o = none ∧ opE P tm σ o = none := by
  obtain ⟨dst, op, ty, pos, after, guard⟩ := o
  cases op <;> first | exact ⟨rfl, rfl, rfl⟩ | (cases h; done) | skip
  next c =>
  obtain ⟨callee, args, ts⟩ := c
  cases callee <;> first | (cases h; done) | skip
  next b => cases b <;> first | exact ⟨rfl, rfl, rfl⟩ | cases h
theorem fam6 {o : Oper} (h : famO o.op = 6) (tm : Tm) (σ : St) (nx : Nat) : callA tm o = none ∧ opP P tm o = none ∧ opA P tm nx o = none ∧ opE P tm σ o = none := by
  obtain ⟨dst, op, ty, pos, after, guard⟩ := o
  cases op <;> first | exact ⟨rfl, rfl, rfl, rfl⟩ | (cases h; done) | skip
  next c =>
  obtain ⟨callee, args, ts⟩ := c
  cases callee <;> first | (cases h; done) | skip
  next b => cases b <;> cases h
theorem fam2 {o : Oper} (h : famO o.op = 2) (tm : Tm) (σ : St) : callA tm o = none ∧ opP P tm o = none ∧ opR P tm σ o = none ∧ opE P tm σ o = none := by
  obtain ⟨dst, op, ty, pos, after, guard⟩ := o
  cases op <;> first | exact ⟨rfl, rfl, rfl, rfl⟩ | (cases h; done) | skip
  next c =>
  obtain ⟨callee, args, ts⟩ := c
  cases callee <;> first | (cases h; done) | skip
  next b => cases b <;> cases h
theorem fam3 {o : Oper} (h : famO o.op = 3) (tm : Tm) (σ : St) (nx : Nat) : callA tm o = none ∧ opP P tm o = none ∧ opR P tm σ o = none ∧ opA P tm nx o = none := by
  obtain ⟨dst, op, ty, pos, after, guard⟩ := o
  cases op <;> first | exact ⟨rfl, rfl, rfl, rfl⟩ | (cases h; done) | skip
  next c =>
  obtain ⟨callee, args, ts⟩ := c
  cases callee <;> first | (cases h; done) | skip
  next b => cases b <;> first | (cases h; done) | (refine ⟨rfl, ?_, rfl, rfl⟩; simp only [opP]; cases avs tm args.toList <;> rfl)
theorem fam4 {o : Oper} (h : famO o.op = 4) (tm : Tm) (σ : St) (nx : Nat) : opP P tm o = none ∧ opR P tm σ o = none ∧ opA P tm nx o = none ∧ opE P tm σ o = none := by
  obtain ⟨dst, op, ty, pos, after, guard⟩ := o
  cases op <;> first | (cases h; done) | skip
  next c =>
  obtain ⟨callee, args, ts⟩ := c
  cases callee <;> first | exact ⟨rfl, rfl, rfl, rfl⟩ | (cases h; done) | skip
  next b => cases b <;> cases h
theorem oC_eq (call : CallF) (tm : Tm) (σ : St) (o : Oper) : (oC P o).run call tm σ = stepV P call tm σ o := by
  unfold oC
  split
  · next h =>
    obtain ⟨h1, h2, h3, h4⟩ := fam0 P h tm σ σ.next
    simp only [stepV, opX, h1, h2, h3, h4, vP_eq, pv_eq]
    cases opP P tm o <;> rfl
  · next h =>
    obtain ⟨h1, h2, h3⟩ := fam1 P h tm σ σ.next
    simp only [stepV, opX, h1, h2, h3, vP_eq, vR_eq, pv_eq]
    cases opP P tm o <;> rfl
  · next h =>
    obtain ⟨h1, h2, h3, h4⟩ := fam6 P h tm σ σ.next
    simp only [stepV, opX, h1, h2, h3, h4, vR_eq, pv_eq]
    cases opR P tm σ o <;> rfl
  · next h =>
    obtain ⟨h1, h2, h3, h4⟩ := fam2 P h tm σ
    simp only [stepV, opX, h1, h2, h3, h4, addO]
    cases opA P tm σ.next o <;> rfl
  · next h =>
    obtain ⟨h1, h2, h3, h4⟩ := fam3 P h tm σ σ.next
    simp only [stepV, opX, h1, h2, h3, h4, eC_eq]
  · next h =>
    obtain ⟨h1, h2, h3, h4⟩ := fam4 P h tm σ σ.next
    simp only [stepV, opX, h1, h2, h3, h4]
    obtain ⟨dst, op, ty, pos, after, guard⟩ := o
    cases op <;> first | (cases h; done) | skip
    next c =>
    obtain ⟨callee, args, ts⟩ := c
    cases callee <;> first | (cases h; done) | skip
    · next f =>
      simp only [callC, callA, aC_eq, lC_eq]
      cases aev tm f with
      | none => rfl
      | some v => cases v <;> cases avs tm args.toList <;> rfl
    · next b => cases b <;> cases h
  · rfl
end
end Go.Proofs.YtopbojifllnckaaGreatDoor
