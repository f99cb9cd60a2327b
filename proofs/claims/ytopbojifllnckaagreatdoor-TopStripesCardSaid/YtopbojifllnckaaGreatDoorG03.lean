/- Operations that read no memory: what the model gives. Operations that read no memory, as one function. -/
import Derived.Test.YtopbojifllnckaaGreatDoorG02
namespace Go.Proofs.YtopbojifllnckaaGreatDoor

section
variable {P : Program} {w : World}
theorem run_eqVd (d : Nat) {E : Env} {t : TypeId} {cst b : Bool} {x y : AV} {cx cy : Value} (h : eqV P t cst x y = some b) (hx : conc E x = some cx) (hy : conc E y = some cy) :
    (Op.equalIn (d + 1) t cx cy).run P w = .ok b w := by
  unfold eqV at h
  split at h
  · next a b' hu =>
    simp only [Option.some.injEq, conc] at h hx hy
    subst h hx hy
    simp [Op.equalIn, run_underlying hu]
  · next e q hu =>
    simp only [Option.some.injEq, conc] at h hx
    subst h hx
    cases q with
    | none => simp only [conc, Option.some.injEq] at hy; subst hy; simp [Op.equalIn, run_underlying hu]
    | some p => obtain ⟨b1, o1⟩ := p; simp only [conc, Option.map_eq_some_iff] at hy; obtain ⟨r, -, rfl⟩ := hy; simp [Op.equalIn, run_underlying hu]
  · next e p hu =>
    obtain ⟨b1, o1⟩ := p
    simp only [Option.some.injEq, conc, Option.map_eq_some_iff] at h hx hy
    obtain ⟨r, -, rfl⟩ := hx
    subst h hy
    simp [Op.equalIn, run_underlying hu]
  · next e n1 c1 x1 q n2 c2 x2 hu =>
    simp only [Option.some.injEq, conc] at h hx
    subst h hx
    cases q with
    | none => simp only [conc, Option.some.injEq] at hy; subst hy; simp [Op.equalIn, run_underlying hu]
    | some p => obtain ⟨b1, o1⟩ := p; simp only [conc, Option.map_eq_some_iff] at hy; obtain ⟨r, -, rfl⟩ := hy; simp [Op.equalIn, run_underlying hu]
  · next e p n1 c1 x1 n2 c2 x2 hu =>
    obtain ⟨b1, o1⟩ := p
    simp only [Option.some.injEq, conc, Option.map_eq_some_iff] at h hx hy
    obtain ⟨r, -, rfl⟩ := hx
    subst h hy
    simp [Op.equalIn, run_underlying hu]
  · next hu =>
    simp only [Option.some.injEq, conc, Option.map_eq_some_iff] at h hx hy
    obtain ⟨r, -, rfl⟩ := hx
    subst h hy
    simp [Op.equalIn, run_underlying hu]
  · next hu =>
    simp only [Option.some.injEq, conc, Option.map_eq_some_iff] at h hx hy
    obtain ⟨r, -, rfl⟩ := hy
    subst h hx
    simp [Op.equalIn, run_underlying hu]
  · next e1 e2 q hu =>
    simp only [Option.some.injEq, conc] at h hx
    subst h hx
    cases q with
    | none => simp only [conc, Option.some.injEq] at hy; subst hy; simp [Op.equalIn, run_underlying hu]
    | some p => simp only [conc, Option.map_eq_some_iff] at hy; obtain ⟨r, -, rfl⟩ := hy; simp [Op.equalIn, run_underlying hu]
  · next e1 e2 p hu =>
    simp only [Option.some.injEq, conc, Option.map_eq_some_iff] at h hx hy
    obtain ⟨r, -, rfl⟩ := hx
    subst h hy
    simp [Op.equalIn, run_underlying hu]
  · next hu =>
    simp only [Option.some.injEq, conc] at h hx hy
    subst h hx hy
    simp [Op.equalIn, run_underlying hu]
  · next hu =>
    simp only [Option.some.injEq, conc, Option.bind_eq_some_iff, Option.map_eq_some_iff] at h hx hy
    obtain ⟨_, _, _, _, rfl⟩ := hy
    subst h hx
    simp [Op.equalIn, run_underlying hu]
  · next hu =>
    simp only [Option.some.injEq, conc, Option.bind_eq_some_iff, Option.map_eq_some_iff] at h hx hy
    obtain ⟨_, _, _, _, rfl⟩ := hx
    subst h hy
    simp [Op.equalIn, run_underlying hu]
  · next hu =>
    simp only [Option.some.injEq, conc, Option.map_eq_some_iff] at h hx hy
    obtain ⟨_, _, rfl⟩ := hy
    subst h hx
    simp [Op.equalIn, run_underlying hu]
  · next hu =>
    simp only [Option.some.injEq, conc, Option.map_eq_some_iff] at h hx hy
    obtain ⟨_, _, rfl⟩ := hx
    subst h hy
    simp [Op.equalIn, run_underlying hu]
  · next hu =>
    cases cst with
    | false => cases h
    | true =>
      simp only [cond_true, Option.some.injEq, conc] at h hx hy
      subst h hx hy
      simp [Op.equalIn, run_underlying hu]
  · next tx v1 ty v2 hu =>
    cases hb : Nat.beq tx ty with
    | true => rw [hb] at h; cases h
    | false =>
      rw [hb] at h
      simp only [cond_false, Option.some.injEq, conc, Option.map_eq_some_iff] at h hx hy
      obtain ⟨_, _, rfl⟩ := hx
      obtain ⟨_, _, rfl⟩ := hy
      subst h
      have hne : tx ≠ ty := fun e => by subst e; simp at hb
      simp [Op.equalIn, run_underlying hu, hne]
  · cases h
theorem run_eqV {E : Env} {t : TypeId} {cst b : Bool} {x y : AV} {cx cy : Value} (h : eqV P t cst x y = some b) (hx : conc E x = some cx) (hy : conc E y = some cy) :
    (Op.equal t cx cy).run P w = .ok b w := run_eqVd 9999 h hx hy
theorem conc_nilIface {E : Env} {v : AV} (h : conc E v = some .nilIface) : v = .nilIface := by
  cases v with
  | nilIface => rfl
  | ptr p => cases p <;> simp [conc] at h
  | slc p n c x => cases p <;> simp [conc] at h
  | map p => cases p <;> simp [conc] at h
  | func f x y => simp only [conc, Option.bind_eq_some_iff, Option.map_eq_some_iff] at h; obtain ⟨_, _, _, _, h⟩ := h; cases h
  | _ => simp [conc] at h
theorem conc_agg {E : Env} {v : AV} {cs : Array Value} (h : conc E v = some (.agg cs)) : ∃ l, v = .agg l := by
  cases v with
  | agg l => exact ⟨l, rfl⟩
  | ptr p => cases p <;> simp [conc] at h
  | slc p n c x => cases p <;> simp [conc] at h
  | map p => cases p <;> simp [conc] at h
  | func f x y => simp only [conc, Option.bind_eq_some_iff, Option.map_eq_some_iff] at h; obtain ⟨_, _, _, _, h⟩ := h; cases h
  | _ => simp [conc] at h
theorem eqV_nil {t : TypeId} {cst b : Bool} (h : eqV P t cst .nilIface .nilIface = some b) : cst = true := by
  unfold eqV at h
  split at h <;> first | (next h1 h2 => cases h1; done) | (next h1 => cases h1; done) | skip
  all_goals first | (cases cst; exact absurd h (by simp); rfl) | (simp_all; done)
theorem eqV_agg {t : TypeId} {cst : Bool} {l : List AV} {y : AV} : eqV P t cst (.agg l) y = none := by
  unfold eqV
  split <;> first | rfl | (simp_all; done)
theorem run_guard {E : Env} {op : BinOp} {t : TypeId} {x y : Operand} {cst b : Bool} {vx vy : AV} {cx cy : Value} (hc : cst = (isConstB x || isConstB y)) (h : eqV P t cst vx vy = some b) (hx : conc E vx = some cx) (hy : conc E vy = some cy) :
    (eqGuard op t x y cx cy).run P w = .ok () w := by
  by_cases h1 : cx = .nilIface
  · subst h1
    obtain rfl := conc_nilIface hx
    by_cases h2 : cy = .nilIface
    · subst h2
      obtain rfl := conc_nilIface hy
      have hcst := eqV_nil h
      subst hcst
      cases x <;> cases y <;> first | (simp [isConstB] at hc; done) | (cases op <;> simp [eqGuard])
    · cases cy <;> first | exact absurd rfl h2 | (cases op <;> simp [eqGuard])
  · by_cases h2 : ∃ l, cx = .agg l
    · obtain ⟨l, rfl⟩ := h2
      obtain ⟨l', rfl⟩ := conc_agg hx
      rw [eqV_agg] at h
      cases h
    · cases cx <;> first | exact absurd rfl h1 | exact absurd ⟨_, rfl⟩ h2 | (cases op <;> simp [eqGuard])
end
end Go.Proofs.YtopbojifllnckaaGreatDoor
namespace Go.Proofs.YtopbojifllnckaaGreatDoor

noncomputable def avs (tm : Tm) : List Operand → Option (List AV)
  | [] => some []
  | x :: xs => match aev tm x, avs tm xs with
    | some v, some vs => some (v :: vs)
    | _, _ => none
noncomputable def ixOf : AV → Option Nat
  | .int _ (.ofNat n) => some n
  | _ => none
noncomputable def ixO (tm : Tm) (d : Nat) : Option Operand → Option Nat
  | none => some d
  | some x => match aev tm x with
    | some v => ixOf v
    | none => none
section
variable (P : Program)
noncomputable def aggB (t : TypeId) : Option Bool := match P.underlying t with
  | some (.struct _) => some true
  | some (.array _ _) => some true
  | some _ => some false
  | none => none
noncomputable def szB (t : TypeId) : Option Nat := match P.info? t with
  | some i => some i.size
  | none => none
noncomputable def zeroA (t : TypeId) : Option AV := match P.info? t with
  | some i => match i.zero with
    | some v => absV v
    | none => none
  | none => none
noncomputable def partA (t : TypeId) (cs : List AV) (off : Nat) : Option AV :=
  match aggB P t, szB P t with
  | some true, some n => bif Nat.ble (off + n) cs.length then some (.agg ((cs.drop off).take n)) else none
  | some false, some _ => cs[off]?
  | _, _ => none
noncomputable def unA (op : UnOp) (x : AV) : Option AV :=
  match op, x with
  | .neg, .int k n => some (.int k (wr k (0 - n)))
  | .xor, .int k n => some (.int k (wr k (BitVec.ofInt k.bits (if k.signed then -1 else k.max) ^^^ BitVec.ofInt k.bits n).toNat))
  | .not, .bool b => some (.bool (!b))
  | _, _ => none
noncomputable def convA (src dst : TypeId) (x : AV) : Option AV :=
  match P.underlying src, P.underlying dst, x with
  | some _, some (.int k), .int _ n => some (.int k (wr k n))
  | some _, some .string, .str s => some (.str s)
  | _, _, _ => none
noncomputable def fieldA (t : TypeId) (x : AV) (i : Nat) : Option AV :=
  match P.underlying t, x with
  | some (.struct fs), .agg cs => match fs[i]? with
    | some f => partA P f.type cs f.offset
    | none => none
  | _, _ => none
noncomputable def fieldAddrA (t : TypeId) (x : AV) (i : Nat) : Option AV :=
  match P.underlying t, x with
  | some (.struct fs), .ptr (some (b, o)) => match fs[i]? with
    | some f => match szB P f.type with
      | some (_ + 1) => some (.ptr (some (b, o + f.offset)))
      | _ => none
    | none => none
  | _, _ => none
noncomputable def indexAddrA (t : TypeId) (x i : AV) : Option AV :=
  match P.underlying t, x, ixOf i with
  | some (.array n e), .ptr (some (b, o)), some j => match szB P e with
    | some s => bif Nat.blt j n then some (.ptr (some (b, o + j * s))) else none
    | none => none
  | some (.slice e), .slc (some (b, o)) n _ _, some j => match szB P e with
    | some s => bif Nat.blt j n then some (.ptr (some (b, o + j * s))) else none
    | none => none
  | _, _, _ => none
noncomputable def indexA (t : TypeId) (x i : AV) : Option AV :=
  match P.underlying t, x, ixOf i with
  | some (.array n e), .agg cs, some j => match szB P e with
    | some s => bif Nat.blt j n then partA P e cs (j * s) else none
    | none => none
  | some .string, .str l, some j => match l[j]? with
    | some b => some (.int .u8 b.toNat)
    | none => none
  | _, _, _ => none
noncomputable def sliceA (tm : Tm) (t : TypeId) (x : AV) (lo hi mx : Option Operand) : Option AV :=
  match P.underlying t, x with
  | some .string, .str s => match mx, ixO tm 0 lo, ixO tm s.length hi with
    | none, some l, some h => bif Nat.ble l h && Nat.ble h s.length then some (.str ((s.drop l).take (h - l))) else none
    | _, _, _ => none
  | some (.slice e), .slc p n c ex => match mx, ixO tm 0 lo, ixO tm n hi, szB P e with
    | none, some l, some h, some s => bif Nat.ble l h && (Nat.ble h c && (Nat.blt l c || (Nat.beq l 0 || ex))) then
        (match p with
        | some (b, o) => some (.slc (some (b, bif Nat.beq c l then o else o + l * s)) (h - l) (c - l) ex)
        | none => some (.slc none (h - l) (c - l) ex)) else bif Nat.ble l h && (Nat.ble h c && (Nat.beq l c && !ex)) then (match p with
        | some (b, o) => some (.send b o (o + l * s) false)
        | none => none) else none
    | some m, some l, some h, some s => match hi, aev tm m with
      | some _, some mv => match ixOf mv with
        | some m => bif Nat.ble l h && (Nat.ble h m && Nat.ble m c) then
          (match p with
          | some (b, o) => some (.slc (some (b, bif Nat.beq m l then o else o + l * s)) (h - l) (m - l) true)
          | none => some (.slc none (h - l) (m - l) true)) else none
        | none => none
      | _, _ => none
    | _, _, _, _ => none
  | some (.slice e), .send b o0 o1 ex => match mx, lo, hi, szB P e with
    | none, none, none, some _ => some (.send b o0 o1 ex)
    | _, _, _, _ => none
  | some (.array n e), .ptr (some (b, o)) => match mx, ixO tm 0 lo, ixO tm n hi, szB P e with
    | none, some l, some h, some s => bif Nat.ble l h && Nat.ble h n then some (.slc (some (b, bif Nat.beq n l then o else o + l * s)) (h - l) (n - l) true) else none
    | _, _, _, _ => none
  | _, _ => none
noncomputable def lenA (t : TypeId) (x : AV) : Option AV :=
  match P.underlying t, x with
  | some .string, .str s => some (.int .i64 s.length)
  | some (.slice _), .slc _ n _ _ => some (.int .i64 n)
  | some (.slice _), .send _ _ _ _ => some (.int .i64 0)
  | some (.array n _), _ => some (.int .i64 n)
  | _, _ => none
noncomputable def assertA (asserted : TypeId) (x : AV) (ok : Bool) : Option AV :=
  match P.underlying asserted, x with
  | some (.interface _), _ => none
  | some _, .iface t v => bif Nat.beq t asserted then some (bif ok then .tup [v, .bool true] else v)
      else bif ok then (zeroA P asserted).map fun z => .tup [z, .bool false] else none
  | some _, .nilIface => bif ok then (zeroA P asserted).map fun z => .tup [z, .bool false] else none
  | _, _ => none
noncomputable def builtA (b : Builtin) (ts : Array TypeId) (vs : List AV) : Option AV :=
  match b, vs with
  | .len, [x] => match ts[0]? with
    | some t => lenA P t x
    | none => none
  | .cap, [.slc _ _ c true] => match ts[0]? with
    | some t => match P.underlying t with
      | some (.slice _) => some (.int .i64 c)
      | _ => none
    | none => none
  | .min, [.int k a, .int _ b] => some (.int k (bif decide (b < a) then b else a))
  | .max, [.int k a, .int _ b] => some (.int k (bif decide (a < b) then b else a))
  | _, _ => none
noncomputable def opP (tm : Tm) (o : Oper) : Option AV :=
  match o.op with
  | .move x => aev tm x
  | .assign x => aev tm x
  | .pick c a b => match aev tm c with
    | some (.bool t) => bif t then aev tm a else aev tm b
    | _ => none
  | .nilCheck x => match aev tm x with
    | some (.ptr (some p)) => some (.ptr (some p))
    | some (.func f a c) => some (.func f a c)
    | some (.iface t v) => some (.iface t v)
    | _ => none
  | .binOp op t x y _ => match aev tm x, aev tm y with
    | some a, some b => binA P op t (isConstB x || isConstB y) a b
    | _, _ => none
  | .unOp op _ x => match aev tm x with
    | some v => unA op v
    | none => none
  | .convert s d x => match aev tm x with
    | some v => convA P s d v
    | none => none
  | .makeInterface t x => match P.underlying t, aev tm x with
    | some (.interface _), _ => none
    | some _, some v => some (.iface t v)
    | _, _ => none
  | .makeFunc (.func f) a c => match avs tm a.toList, avs tm c.toList with
    | some a, some c => some (.func f a c)
    | _, _ => none
  | .fieldAddr t x i => match aev tm x with
    | some v => fieldAddrA P t v i
    | none => none
  | .field t x i => match aev tm x with
    | some v => fieldA P t v i
    | none => none
  | .indexAddr t x i => match aev tm x, aev tm i with
    | some v, some j => indexAddrA P t v j
    | _, _ => none
  | .index t x i => match aev tm x, aev tm i with
    | some v, some j => indexA P t v j
    | _, _ => none
  | .slice t x lo hi mx => match aev tm x with
    | some v => sliceA P tm t v lo hi mx
    | none => none
  | .extract x i => match aev tm x with
    | some (.tup vs) => vs[i]?
    | _ => none
  | .typeAssert x _ t ok => match aev tm x with
    | some v => assertA P t v ok
    | none => none
  | .call ⟨.builtin b, args, ts⟩ => match avs tm args.toList with
    | some vs => builtA P b ts vs
    | none => none
  | _ => none
end

/-! ### what the model gives -/
section
variable {P : Program} {w : World} {E : Env} {tm : Tm} {a : Act}
theorem avs_concs (h : TmR E tm a.tmps) : ∀ {xs : List Operand} {vs : List AV}, avs tm xs = some vs → concs E vs = some (xs.map a.eval)
  | [], vs, hv => by simp only [avs, Option.some.injEq] at hv; subst hv; rfl
  | x :: xs, vs, hv => by
    unfold avs at hv
    split at hv
    · next v us h1 h2 =>
      injection hv with hv
      subst hv
      exact concs_cons_mk (aev_conc h h1) (avs_concs h h2)
    · cases hv
theorem ixOf_int {v : AV} {n : Nat} {c : Value} (h : ixOf v = some n) (hc : conc E v = some c) : ∃ k, c = .int k n := by
  unfold ixOf at h
  split at h
  · next k m =>
    simp only [Option.some.injEq, conc] at h hc
    subst h hc
    exact ⟨k, rfl⟩
  · cases h
theorem szB_run {t : TypeId} {n : Nat} (h : szB P t = some n) (w : World) : (sizeOf t).run P w = .ok n w ∧ P.cellsOf t = n ∧ (P.info? t).map (·.size) = some n := by
  unfold szB at h
  split at h
  · next i hi =>
    injection h with h
    subst h
    exact ⟨by simp [sizeOf, typeInfo, hi], by simp [Program.cellsOf, hi], by simp [hi]⟩
  · cases h
theorem aggB_run {t : TypeId} {b : Bool} (h : aggB P t = some b) (w : World) : (isAgg t).run P w = .ok b w := by
  unfold aggB at h
  split at h <;> first | (cases h; done) | skip
  all_goals
    injection h with h
    subst h
    unfold isAgg
    rw [Sem.run_bind, run_underlying (by assumption) w]
  · rfl
  · rfl
  · next d h1 h2 hu => cases d <;> first | rfl | exact absurd rfl (h1 _ ) | exact absurd rfl (h2 _ _)
theorem part_run {t : TypeId} {cs : List AV} {off : Nat} {v : AV} {ds : List Value} (h : partA P t cs off = some v) (hc : concs E cs = some ds) (w : World) :
    ∃ c, (part t ds.toArray off).run P w = .ok c w ∧ conc E v = some c := by
  unfold partA at h
  split at h
  · next n h1 h2 =>
    obtain ⟨s1, -, -⟩ := szB_run h2 w
    cases hb : Nat.ble (off + n) cs.length with
    | false => rw [hb] at h; cases h
    | true =>
      rw [hb] at h
      simp only [cond_true, Option.some.injEq] at h
      subst h
      refine ⟨.agg ((ds.drop off).take n).toArray, ?_, ?_⟩
      · unfold part
        rw [Sem.run_bind, aggB_run h1 w]
        simp only [Result.andThen_ok, if_true, Sem.run_bind, s1, Sem.run_pure]
        congr 2
        apply Array.ext'
        simp
      · simp [conc, concs_take n (concs_drop off hc)]
  · next n h1 h2 =>
    obtain ⟨c, h3, h4⟩ := concs_get hc h
    refine ⟨c, ?_, h4⟩
    unfold part
    rw [Sem.run_bind, aggB_run h1 w]
    simp [h3]
  · cases h
end
end Go.Proofs.YtopbojifllnckaaGreatDoor
