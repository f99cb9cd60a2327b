/- The evaluator laid out for the kernel: what hangs on the text alone is done once. The evaluator laid out for the kernel: operations. -/
import Derived.Test.YtopbojifllnckaaGreatDoorG13
namespace Go.Proofs.YtopbojifllnckaaGreatDoor
/-! ### slots -/
structure GC where
  get : Tm → Option AV
noncomputable def gC (k : Nat) : GC := ⟨fun t => (s16 (Option AV) (Nat.mod k 16)).run ((s16 (N16 (Option AV)) (Nat.div k 16)).run t)⟩
theorem gC_eq {k : Nat} (t : Tm) (h : k < 256) : (gC k).get t = t.get k := by
  have e : (Nat.blt k 256 = true) = (k < 256) := Nat.blt_eq
  unfold gC Tm.get
  rw [e.mpr h]
  rfl
structure PC where
  put : AV → Tm → Tm
noncomputable def pC (k : Nat) : PC := ⟨fun v t => (u16 (N16 (Option AV)) (Nat.div k 16)).run ((u16 (Option AV) (Nat.mod k 16)).run fun _ => some v) t⟩
noncomputable def aC (x : Operand) : GC := match x with
  | .tmp t => bif Tm.inT t then gC t else ⟨fun tm => tm.get t⟩
  | .const v => ⟨fun _ => absV v⟩
  | .func f => ⟨fun _ => some (.func f [] [])⟩
  | .global _ => ⟨fun _ => none⟩
theorem aC_eq (x : Operand) (tm : Tm) : (aC x).get tm = aev tm x := by
  cases x with
  | tmp t =>
    show (bif Tm.inT t then gC t else (⟨fun tm => tm.get t⟩ : GC)).get tm = tm.get t
    cases h : Tm.inT t with
    | false => rfl
    | true => exact gC_eq tm (Tm.inT_lt h)
  | _ => rfl
noncomputable def dC (nt : Nat) (d : Option Nat) : Option PC := match d with
  | none => some ⟨fun _ t => t⟩
  | some d => bif Nat.blt d nt && Tm.inT d then some (pC d) else none
theorem dC_eq (nt : Nat) (d : Option Nat) (v : AV) (tm : Tm) : putA nt d v tm = (dC nt d).map fun p => p.put v tm := by
  cases d with
  | none => rfl
  | some d =>
    show (bif Nat.blt d nt && Tm.inT d then some (Tm.put v tm d) else none) = (bif Nat.blt d nt && Tm.inT d then some (pC d) else none).map fun p => p.put v tm
    cases h : (Nat.blt d nt && Tm.inT d) with
    | false => rfl
    | true => rfl
/-! ### binding -/
noncomputable def ob1 {α β : Type} (r : Option α) (f : α → Option β) : Option β := Option.rec (motive := fun _ => Option β) none (fun v => f v) r
theorem ob1_eq {α β : Type} (r : Option α) (f : α → Option β) : ob1 r f = match r with
  | some v => f v
  | none => none := by cases r <;> rfl
noncomputable def ob2 (r s : Option AV) (f : AV → AV → Option AV) : Option AV := Option.rec (motive := fun _ => Option AV) none (fun v => Option.rec (motive := fun _ => Option AV) none (fun u => f v u) s) r
theorem ob2_eq (r s : Option AV) (f : AV → AV → Option AV) : ob2 r s f = match r, s with
  | some v, some u => f v u
  | _, _ => none := by cases r <;> cases s <;> rfl
structure LC where
  get : Tm → Option (List AV)
noncomputable def lC : List Operand → LC
  | [] => ⟨fun _ => some []⟩
  | x :: xs => ⟨fun tm => ob1 ((aC x).get tm) fun v => ob1 ((lC xs).get tm) fun vs => some (v :: vs)⟩
theorem lC_eq : ∀ (xs : List Operand) (tm : Tm), (lC xs).get tm = avs tm xs
  | [], _ => rfl
  | x :: xs, tm => by
    show ob1 ((aC x).get tm) (fun v => ob1 ((lC xs).get tm) fun vs => some (v :: vs)) = _
    unfold avs
    rw [aC_eq, lC_eq xs tm]
    cases aev tm x <;> cases avs tm xs <;> rfl
/-! ### operations that read no memory -/
structure UC where
  run : AV → Option AV
structure BC where
  run : AV → AV → Option AV
structure IC where
  run : IntKind → Int → Int → Option AV
noncomputable def nilA : AV → Option AV
  | .ptr (some p) => some (.ptr (some p))
  | .func f a c => some (.func f a c)
  | .iface t v => some (.iface t v)
  | _ => none
noncomputable def extA (i : Nat) : AV → Option AV
  | .tup vs => vs[i]?
  | _ => none
noncomputable def kMax (k : IntKind) : Nat := IntKind.rec (motive := fun _ => Nat) 128 32768 2147483648 9223372036854775808 256 65536 4294967296 18446744073709551616 k
noncomputable def kFull (k : IntKind) : Nat := IntKind.rec (motive := fun _ => Nat) 256 65536 4294967296 18446744073709551616 256 65536 4294967296 18446744073709551616 k
noncomputable def kBits (k : IntKind) : Nat := IntKind.rec (motive := fun _ => Nat) 8 16 32 64 8 16 32 64 k
theorem kBits_eq (k : IntKind) : kBits k = k.bits := by cases k <;> rfl
theorem kFull_eq (k : IntKind) : kFull k = 2 ^ k.bits := by cases k <;> rfl
noncomputable def wrF (k : IntKind) (n : Int) : Int := Int.rec (motive := fun _ => Int) (fun m => bif Nat.blt m (kMax k) then .ofNat m else k.wrap (.ofNat m)) (fun m => k.wrap (.negSucc m)) n
theorem wrF_eq (k : IntKind) (n : Int) : wrF k n = wr k n := by
  rw [wr_eq]
  cases n with
  | negSucc m => rfl
  | ofNat m =>
    show (bif Nat.blt m (kMax k) then Int.ofNat m else k.wrap (.ofNat m)) = k.wrap (.ofNat m)
    cases h : Nat.blt m (kMax k) with
    | false => rfl
    | true =>
      have h1 := blt_lt h
      have e : (Int.ofNat m : Int) = (m : Int) := rfl
      simp only [cond_true]
      rw [e]
      cases k <;> simp [IntKind.wrap, IntKind.bits, IntKind.signed, kMax] at h1 ⊢ <;> omega
theorem blt_dec (m n : Nat) : Nat.blt m n = decide (m < n) := by
  cases h : Nat.blt m n with
  | true => have := blt_lt h; simp [this]
  | false =>
    have : ¬ m < n := fun hl => by
      have e : (Nat.blt m n = true) = (m < n) := Nat.blt_eq
      rw [e.mpr hl] at h
      cases h
    simp [this]
theorem ble_dec (m n : Nat) : Nat.ble m n = decide (m ≤ n) := by
  cases h : Nat.ble m n with
  | true => have := Nat.le_of_ble_eq_true h; simp [this]
  | false =>
    have : ¬ m ≤ n := fun hl => by
      rw [Nat.ble_eq_true_of_le hl] at h
      cases h
    simp [this]
theorem beq_dec (m n : Nat) : Nat.beq m n = decide (m = n) := by
  cases h : Nat.beq m n with
  | true => have := beq_eq h; simp [this]
  | false =>
    have : ¬ m = n := fun hl => by subst hl; simp at h
    simp [this]
/-- Two whole numbers that are not negative, else the long way. -/
noncomputable def nn {α : Type} (f : Nat → Nat → α) (g : α) (a b : Int) : α := Int.rec (motive := fun _ => α) (fun m => Int.rec (motive := fun _ => α) (fun n => f m n) (fun _ => g) b) (fun _ => g) a
theorem nn_eq {α : Type} {f : Nat → Nat → α} {g : α} {a b : Int} (h : ∀ m n, a = .ofNat m → b = .ofNat n → f m n = g) : nn f g a b = g := by
  cases a with
  | negSucc m => rfl
  | ofNat m =>
    cases b with
    | negSucc n => rfl
    | ofNat n => exact h m n rfl rfl
noncomputable def iC (op : BinOp) : IC := match op with
  | .add => ⟨fun k a b => nn (fun m n => some (.int k (wrF k (.ofNat (Nat.add m n))))) (intBin .add k a b) a b⟩
  | .sub => ⟨fun k a b => nn (fun m n => bif Nat.ble n m then some (.int k (wrF k (.ofNat (Nat.sub m n)))) else intBin .sub k a b) (intBin .sub k a b) a b⟩
  | .mul => ⟨fun k a b => nn (fun m n => some (.int k (wrF k (.ofNat (Nat.mul m n))))) (intBin .mul k a b) a b⟩
  | .or => ⟨fun k a b => nn (fun m n => some (.int k (wrF k (.ofNat (Nat.lor (Nat.mod m (kFull k)) (Nat.mod n (kFull k))))))) (intBin .or k a b) a b⟩
  | .and => ⟨fun k a b => nn (fun m n => some (.int k (wrF k (.ofNat (Nat.land (Nat.mod m (kFull k)) (Nat.mod n (kFull k))))))) (intBin .and k a b) a b⟩
  | .xor => ⟨fun k a b => nn (fun m n => some (.int k (wrF k (.ofNat (Nat.xor (Nat.mod m (kFull k)) (Nat.mod n (kFull k))))))) (intBin .xor k a b) a b⟩
  | .eql => ⟨fun k a b => nn (fun m n => some (.bool (Nat.beq m n))) (intBin .eql k a b) a b⟩
  | .neq => ⟨fun k a b => nn (fun m n => some (.bool (!Nat.beq m n))) (intBin .neq k a b) a b⟩
  | .lss => ⟨fun k a b => nn (fun m n => some (.bool (Nat.blt m n))) (intBin .lss k a b) a b⟩
  | .leq => ⟨fun k a b => nn (fun m n => some (.bool (Nat.ble m n))) (intBin .leq k a b) a b⟩
  | .gtr => ⟨fun k a b => nn (fun m n => some (.bool (Nat.blt n m))) (intBin .gtr k a b) a b⟩
  | .geq => ⟨fun k a b => nn (fun m n => some (.bool (Nat.ble n m))) (intBin .geq k a b) a b⟩
  | op => ⟨fun k a b => intBin op k a b⟩
theorem ofInt_nat (w m : Nat) : (BitVec.ofInt w (Int.ofNat m)).toNat = m % 2 ^ w := by
  have e : (Int.ofNat m : Int) = (m : Int) := rfl
  rw [e, BitVec.toNat_ofInt]
  omega
theorem iC_eq (op : BinOp) (k : IntKind) (a b : Int) : (iC op).run k a b = intBin op k a b := by
  have c1 : ∀ m : Nat, (Int.ofNat m : Int) = (m : Int) := fun _ => rfl
  cases op <;> try rfl
  all_goals refine nn_eq fun m n ha hb => ?_
  all_goals subst ha hb
  all_goals simp only [intBin, wrF_eq, blt_dec, ble_dec, beq_dec, BitVec.toNat_or, BitVec.toNat_and, BitVec.toNat_xor, ofInt_nat, kFull_eq]
  case sub =>
    cases h : decide (n ≤ m) with
    | false => rfl
    | true =>
      have h1 := of_decide_eq_true h
      simp only [cond_true]
      congr 3
      simp only [c1]
      have : Nat.sub m n = m - n := rfl
      omega
  case eql => congr 2; rw [Bool.eq_iff_iff]; simp; omega
  case neq => congr 2; rw [Bool.eq_iff_iff]; simp; omega
  case lss => congr 2; rw [Bool.eq_iff_iff]; simp
  case leq => congr 2; rw [Bool.eq_iff_iff]; simp
  case gtr => congr 2; rw [Bool.eq_iff_iff]; simp
  case geq => congr 2; rw [Bool.eq_iff_iff]; simp
  all_goals rfl
noncomputable def shC (op : BinOp) (k : IntKind) (a b : Int) : Option AV := match op with
  | .shl => nn (fun m n => some (.int k (wrF k (.ofNat (Nat.shiftLeft m (bif Nat.ble n (kBits k) then n else kBits k)))))) (shBin .shl k a b) a b
  | .shr => nn (fun m n => some (.int k (.ofNat (Nat.shiftRight m (bif Nat.ble n (kBits k) then n else kBits k))))) (shBin .shr k a b) a b
  | op => shBin op k a b
theorem min_bif (n m : Nat) : (bif Nat.ble n m then n else m) = min n m := by
  rw [ble_dec]
  by_cases h : n ≤ m
  · simp [h]
  · simp [h]; omega
theorem shC_eq (op : BinOp) (k : IntKind) (a b : Int) : shC op k a b = shBin op k a b := by
  have c1 : ∀ m : Nat, (Int.ofNat m : Int) = (m : Int) := fun _ => rfl
  unfold shC
  split
  all_goals try rfl
  all_goals refine nn_eq fun m n ha hb => ?_
  all_goals subst ha hb
  all_goals
    have h0 : decide ((Int.ofNat n : Int) < 0) = false := by simp
    simp only [shBin, h0, cond_false, wrF_eq, min_bif, kBits_eq]
  · congr 3
    simp only [c1, Int.toNat_natCast]
    have : Nat.shiftLeft m (min n k.bits) = m * 2 ^ (min n k.bits) := Nat.shiftLeft_eq m _
    rw [this]
    simp
  · congr 2
    simp only [c1, Int.toNat_natCast]
    have : Nat.shiftRight m (min n k.bits) = m / 2 ^ (min n k.bits) := Nat.shiftRight_eq_div_pow m _
    rw [this]
    have e2 : (2 : Int) ^ (min n k.bits) = ((2 ^ (min n k.bits) : Nat) : Int) := by simp
    rw [e2]
    exact Int.ofNat_fdiv _ _
section
variable (P : Program)
noncomputable def binC (op : BinOp) (t : TypeId) (cst : Bool) : BC := match op with
  | .shl => ⟨fun x y => match x, y with
    | .int k a, .int _ b => shC .shl k a b
    | x, y => binA P .shl t cst x y⟩
  | .shr => ⟨fun x y => match x, y with
    | .int k a, .int _ b => shC .shr k a b
    | x, y => binA P .shr t cst x y⟩
  | op => ⟨fun x y => match x, y with
    | .int k a, .int k' b => bif Nat.beq k.ctorIdx k'.ctorIdx then (iC op).run k a b else none
    | x, y => binA P op t cst x y⟩
theorem kind_eq (k k' : IntKind) : Nat.beq k.ctorIdx k'.ctorIdx = decide (k = k') := by cases k <;> cases k' <;> rfl
theorem binC_eq (op : BinOp) (t : TypeId) (cst : Bool) (x y : AV) : (binC P op t cst).run x y = binA P op t cst x y := by
  have key : ∀ (op : BinOp), op ≠ .shl → op ≠ .shr → (match x, y with
    | .int k a, .int k' b => bif Nat.beq k.ctorIdx k'.ctorIdx then (iC op).run k a b else none
    | x, y => binA P op t cst x y) = binA P op t cst x y := fun op h1 h2 => by
    cases x <;> cases y <;> try rfl
    next k a k' b =>
    simp only [kind_eq, iC_eq]
    cases op <;> first | exact absurd rfl h1 | exact absurd rfl h2 | rfl
  cases op <;> first | exact key _ (by decide) (by decide) | skip
  · cases x <;> cases y <;> try rfl
    next k a k' b => exact shC_eq .shl k a b
  · cases x <;> cases y <;> try rfl
    next k a k' b => exact shC_eq .shr k a b
noncomputable def convC (src dst : TypeId) : UC := match P.underlying src, P.underlying dst with
  | some _, some (.int k) => ⟨fun x => match x with | .int _ n => some (.int k (wrF k n)) | _ => none⟩
  | some _, some .string => ⟨fun x => match x with | .str s => some (.str s) | _ => none⟩
  | _, _ => ⟨fun _ => none⟩
theorem convC_eq (s d : TypeId) (x : AV) : (convC P s d).run x = convA P s d x := by
  unfold convC convA
  cases P.underlying s with
  | none => cases P.underlying d <;> rfl
  | some u =>
    cases P.underlying d with
    | none => rfl
    | some v => cases v <;> first | rfl | (cases x <;> first | rfl | (simp only [wrF_eq]))
noncomputable def faC (t : TypeId) (i : Nat) : UC := match P.underlying t with
  | some (.struct fs) => match fs[i]? with
    | some f => match szB P f.type with
      | some (_ + 1) => match f.offset with
        | 0 => ⟨fun x => match x with | .ptr (some p) => some (.ptr (some p)) | _ => none⟩
        | off => ⟨fun x => match x with | .ptr (some (b, o)) => some (.ptr (some (b, o + off))) | _ => none⟩
      | _ => ⟨fun _ => none⟩
    | none => ⟨fun _ => none⟩
  | _ => ⟨fun _ => none⟩
theorem faC_eq (t : TypeId) (i : Nat) (x : AV) : (faC P t i).run x = fieldAddrA P t x i := by
  unfold faC fieldAddrA
  cases hu : P.underlying t with
  | none => rfl
  | some u =>
    cases u <;> try rfl
    next fs =>
    simp only
    cases hf : fs[i]? with
    | none => cases x <;> first | rfl | (next p => cases p <;> first | rfl | (simp only [hf]))
    | some f =>
      simp only
      cases hs : szB P f.type with
      | none => cases x <;> first | rfl | (next p => cases p <;> first | rfl | (simp only [hf, hs]))
      | some n =>
        cases n with
        | zero => cases x <;> first | rfl | (next p => cases p <;> first | rfl | (simp only [hf, hs]))
        | succ n =>
          simp only
          cases ho : f.offset with
          | zero => cases x <;> first | rfl | (next p => cases p <;> first | rfl | (simp only [hf, hs, ho, Nat.add_zero]))
          | succ m => cases x <;> first | rfl | (next p => cases p <;> first | rfl | (simp only [hf, hs, ho]))
noncomputable def iaC (t : TypeId) : BC := match P.underlying t with
  | some (.array n e) => match szB P e with
    | some s => ⟨fun x i => match x, ixOf i with | .ptr (some (b, o)), some j => bif Nat.blt j n then some (.ptr (some (b, o + j * s))) else none | _, _ => none⟩
    | none => ⟨fun _ _ => none⟩
  | some (.slice e) => match szB P e with
    | some s => ⟨fun x i => match x, ixOf i with | .slc (some (b, o)) n _ _, some j => bif Nat.blt j n then some (.ptr (some (b, o + j * s))) else none | _, _ => none⟩
    | none => ⟨fun _ _ => none⟩
  | _ => ⟨fun _ _ => none⟩
theorem iaC_eq (t : TypeId) (x i : AV) : (iaC P t).run x i = indexAddrA P t x i := by
  unfold iaC indexAddrA
  cases hu : P.underlying t with
  | none => rfl
  | some u =>
    cases u <;> try rfl
    case slice e =>
      simp only
      cases hs : szB P e with
      | none =>
        cases x <;> try rfl
        next p n c ex => cases p <;> cases hj : ixOf i <;> first | rfl | simp only [hs]
      | some m =>
        cases x <;> try rfl
        next p n c ex => cases p <;> cases hj : ixOf i <;> first | rfl | simp only [hs, hj]
    case array n e =>
      simp only
      cases hs : szB P e with
      | none =>
        cases x <;> try rfl
        next p => cases p <;> cases hj : ixOf i <;> first | rfl | simp only [hs]
      | some m =>
        cases x <;> try rfl
        next p => cases p <;> cases hj : ixOf i <;> first | rfl | simp only [hs, hj]
end
end Go.Proofs.YtopbojifllnckaaGreatDoor
namespace Go.Proofs.YtopbojifllnckaaGreatDoor
noncomputable def getL (t : Tr AV) (d : Option AV) (n : Nat) : Nat → Option (List AV) := Nat.rec (motive := fun _ => Nat → Option (List AV)) (fun _ => some []) (fun _ ih o => ob1 (Option.rec (motive := fun _ => Option AV) d (fun v => some v) (t.get o)) fun v => ob1 (ih (Nat.add o 1)) fun vs => some (v :: vs)) n
noncomputable def rdF (ob : AO) (o n : Nat) : Option (List AV) := match ob with
  | .cells sz t e d l => bif Nat.ble (Nat.add o n) sz then getL t d n o else rdN (.cells sz t e d l) o n
  | ob => rdN ob o n
theorem getL_eq (sz : Nat) (t : Tr AV) (e : TypeId) (d : Option AV) (l : Bool) : ∀ (n o : Nat), o + n ≤ sz → getL t d n o = rdN (.cells sz t e d l) o n
  | 0, _, _ => rfl
  | n + 1, o, h => by
    have e1 : getL t d (n + 1) o = ob1 (Option.rec (motive := fun _ => Option AV) d (fun v => some v) (t.get o)) fun v => ob1 (getL t d n (o + 1)) fun vs => some (v :: vs) := rfl
    have e2 : rdO (.cells sz t e d l) o = Option.rec (motive := fun _ => Option AV) d (fun v => some v) (t.get o) := by
      unfold rdO
      have : Nat.blt o sz = true := by
        have e : (Nat.blt o sz = true) = (o < sz) := Nat.blt_eq
        exact e.mpr (by omega)
      simp only [this, cond_true]
      cases t.get o <;> rfl
    rw [e1, getL_eq sz t e d l n (o + 1) (by omega), ← e2, rdN]
    cases rdO (.cells sz t e d l) o <;> cases rdN (.cells sz t e d l) (o + 1) n <;> rfl
theorem rdF_eq (ob : AO) (o n : Nat) : rdF ob o n = rdN ob o n := by
  cases ob with
  | cells sz t e d l =>
    show (bif Nat.ble (Nat.add o n) sz then getL t d n o else rdN (.cells sz t e d l) o n) = _
    cases h : Nat.ble (Nat.add o n) sz with
    | false => rfl
    | true => exact getL_eq sz t e d l n o (Nat.le_of_ble_eq_true h)
  | map es c => rfl
  | iter a b c d => rfl
noncomputable def putL (vs : List AV) : Tr AV → Nat → Tr AV := List.rec (motive := fun _ => Tr AV → Nat → Tr AV) (fun t _ => t) (fun v _ ih t o => ih (Tr.put (some v) t o) (Nat.add o 1)) vs
noncomputable def oneL (vs : List AV) : Bool := List.rec (motive := fun _ => Bool) true (fun v _ ih => bif v.one then ih else false) vs
noncomputable def wrF2 (ob : AO) (o : Nat) (vs : List AV) : Option AO := match ob with
  | .cells n t e d l => bif Nat.ble (Nat.add o vs.length) n && (Tr.inB (Nat.add o vs.length) && oneL vs) then some (.cells n (putL vs t o) e d l) else wrN (.cells n t e d l) o vs
  | ob => wrN ob o vs
theorem putL_eq (n : Nat) (e : TypeId) (d : Option AV) (l : Bool) : ∀ (vs : List AV) (t : Tr AV) (o : Nat), o + vs.length ≤ n → o + vs.length < 67108864 → oneL vs = true → some (.cells n (putL vs t o) e d l) = wrN (.cells n t e d l) o vs
  | [], _, _, _, _, _ => rfl
  | v :: vs, t, o, h1, h2, h3 => by
    simp only [List.length_cons] at h1 h2
    have h3' : (bif v.one then oneL vs else false) = true := h3
    obtain ⟨h4, h5⟩ := and_of h3'
    have b1 : Nat.blt o n = true := by
      have e : (Nat.blt o n = true) = (o < n) := Nat.blt_eq
      exact e.mpr (by omega)
    have b2 : Tr.inB o = true := by
      have e : (Nat.blt o 67108864 = true) = (o < 67108864) := Nat.blt_eq
      exact e.mpr (by omega)
    have e1 : wr1 (.cells n t e d l) o v = some (.cells n (Tr.put (some v) t o) e d l) := by
      unfold wr1
      simp only [b1, b2, h4, Bool.and_self, cond_true]
    rw [wrN, e1]
    exact putL_eq n e d l vs (Tr.put (some v) t o) (o + 1) (by omega) (by omega) h5
theorem wrF2_eq (ob : AO) (o : Nat) (vs : List AV) : wrF2 ob o vs = wrN ob o vs := by
  cases ob with
  | cells n t e d l =>
    show (bif Nat.ble (Nat.add o vs.length) n && (Tr.inB (Nat.add o vs.length) && oneL vs) then some (.cells n (putL vs t o) e d l) else wrN (.cells n t e d l) o vs) = _
    cases h : (Nat.ble (Nat.add o vs.length) n && (Tr.inB (Nat.add o vs.length) && oneL vs)) with
    | false => rfl
    | true =>
      simp only [Bool.and_eq_true] at h
      exact putL_eq n e d l vs t o (Nat.le_of_ble_eq_true h.1) (Tr.inB_lt h.2.1) h.2.2
  | map es c => rfl
  | iter a b c d => rfl
section
variable (P : Program)
noncomputable def storeF (σ : St) (t : TypeId) (x v : AV) : Option St :=
  match x with
  | .ptr (some (b, o)) => match σ.heap.get b, szB P t with
    | some ob, some n => bif Nat.beq v.cells.length n && Tr.inB b then (match wrF2 ob o v.cells with
      | some ob' => some (σ.chg b ob')
      | none => none) else none
    | _, _ => none
  | _ => none
noncomputable def copyF (σ : St) (dT : TypeId) (d s : AV) : Option (AV × St) :=
  match P.underlying dT, d with
  | some (.slice e), .slc p n _ _ => match szB P e with
    | some size => match (match s with
        | .str l => bif Nat.beq size 1 then some (Nat.min l.length n, some (byteAV (l.take (Nat.min l.length n)))) else none
        | .slc (some (b, o)) m _ _ => match σ.heap.get b with
          | some ob => some (Nat.min m n, rdF ob o (Nat.min m n * size))
          | none => none
        | .slc none m _ _ => some (Nat.min m n, some [])
        | _ => none) with
      | some (k, some vs) => match p with
        | some (b, o) => match σ.heap.get b with
          | some ob => bif Tr.inB b then (match wrF2 ob o vs with
            | some ob' => some (.int .i64 k, σ.chg b ob')
            | none => none) else none
          | none => none
        | none => some (.int .i64 k, σ)
      | _ => none
    | none => none
  | _, _ => none
noncomputable def bytesF (σ : St) (s d : TypeId) (x : AV) : Option AV :=
  match P.underlying s, P.underlying d, x with
  | some (.slice e), some .string, .slc (some (b, o)) n _ _ => match P.underlying e, σ.heap.get b with
    | some (.int .u8), some ob => match rdF ob o n with
      | some vs => match byteL vs with
        | some l => some (.str l)
        | none => none
      | none => none
    | _, _ => none
  | _, _, _ => none
theorem storeF_eq (σ : St) (t : TypeId) (x v : AV) : storeF P σ t x v = storeA P σ t x v := by
  unfold storeF storeA
  simp only [wrF2_eq]
  rfl
theorem copyF_eq (σ : St) (dT : TypeId) (d s : AV) : copyF P σ dT d s = copyA P σ dT d s := by
  unfold copyF copyA
  simp only [rdF_eq, wrF2_eq]
  rfl
theorem bytesF_eq (σ : St) (s d : TypeId) (x : AV) : bytesF P σ s d x = bytesA P σ s d x := by
  unfold bytesF bytesA
  simp only [rdF_eq]
  rfl
end
section
variable (P : Program)
/-- Values that hang on the slots alone. -/
noncomputable def vP (op : Op) : GC := match op with
  | .move x => aC x
  | .assign x => aC x
  | .pick c a b => ⟨fun tm => match (aC c).get tm with
    | some (.bool t) => bif t then (aC a).get tm else (aC b).get tm
    | _ => none⟩
  | .nilCheck x => ⟨fun tm => ob1 ((aC x).get tm) nilA⟩
  | .binOp op t x y _ => ⟨fun tm => ob2 ((aC x).get tm) ((aC y).get tm) (binC P op t (isConstB x || isConstB y)).run⟩
  | .unOp op _ x => ⟨fun tm => ob1 ((aC x).get tm) (unA op)⟩
  | .convert s d x => ⟨fun tm => ob1 ((aC x).get tm) (convC P s d).run⟩
  | .fieldAddr t x i => ⟨fun tm => ob1 ((aC x).get tm) (faC P t i).run⟩
  | .field t x i => ⟨fun tm => ob1 ((aC x).get tm) fun v => fieldA P t v i⟩
  | .indexAddr t x i => ⟨fun tm => ob2 ((aC x).get tm) ((aC i).get tm) (iaC P t).run⟩
  | .index t x i => ⟨fun tm => ob2 ((aC x).get tm) ((aC i).get tm) (indexA P t)⟩
  | .slice t x lo hi mx => ⟨fun tm => ob1 ((aC x).get tm) fun v => sliceA P tm t v lo hi mx⟩
  | .extract x i => ⟨fun tm => ob1 ((aC x).get tm) (extA i)⟩
  | .typeAssert x _ t ok => ⟨fun tm => ob1 ((aC x).get tm) fun v => assertA P t v ok⟩
  | .makeInterface t x => match P.underlying t with
    | some (.interface _) => ⟨fun _ => none⟩
    | some _ => ⟨fun tm => ob1 ((aC x).get tm) fun v => some (.iface t v)⟩
    | none => ⟨fun _ => none⟩
  | .makeFunc (.func f) a c => ⟨fun tm => match (lC a.toList).get tm, (lC c.toList).get tm with
    | some a, some c => some (.func f a c)
    | _, _ => none⟩
  | .call ⟨.builtin b, args, ts⟩ => ⟨fun tm => ob1 ((lC args.toList).get tm) (builtA P b ts)⟩
  | _ => ⟨fun _ => none⟩
theorem vP_eq (tm : Tm) (o : Oper) : (vP P o.op).get tm = opP P tm o := by
  obtain ⟨dst, op, ty, pos, after, guard⟩ := o
  unfold vP opP
  cases op <;> try rfl
  case move x => exact aC_eq x tm
  case assign x => exact aC_eq x tm
  case pick c a b => simp only [aC_eq]; rfl
  case nilCheck x =>
    simp only [aC_eq, ob1_eq]
    cases aev tm x with
    | none => rfl
    | some v => cases v <;> first | rfl | (next p => cases p <;> rfl)
  case binOp op t x y yt =>
    simp only [aC_eq, ob2_eq, binC_eq]
    cases aev tm x <;> cases aev tm y <;> rfl
  case unOp op t x =>
    simp only [aC_eq, ob1_eq]
    cases aev tm x <;> rfl
  case convert s d x =>
    simp only [aC_eq, ob1_eq, convC_eq]
    cases aev tm x <;> rfl
  case fieldAddr t x i =>
    simp only [aC_eq, ob1_eq, faC_eq]
    cases aev tm x <;> rfl
  case field t x i =>
    simp only [aC_eq, ob1_eq]
    cases aev tm x <;> rfl
  case indexAddr t x i =>
    simp only [aC_eq, ob2_eq, iaC_eq]
    cases aev tm x <;> cases aev tm i <;> rfl
  case index t x i =>
    simp only [aC_eq, ob2_eq]
    cases aev tm x <;> cases aev tm i <;> rfl
  case slice t x lo hi mx =>
    simp only [aC_eq, ob1_eq]
    cases aev tm x <;> rfl
  case extract x i =>
    simp only [aC_eq, ob1_eq]
    cases aev tm x with
    | none => rfl
    | some v => cases v <;> rfl
  case typeAssert x t u ok =>
    simp only [aC_eq, ob1_eq]
    cases aev tm x <;> rfl
  case makeInterface t x =>
    simp only
    cases P.underlying t with
    | none => rfl
    | some u =>
      cases u <;> simp only [aC_eq, ob1_eq] <;> cases aev tm x <;> rfl
  case makeFunc f a c =>
    cases f <;> try rfl
    simp only [lC_eq]
    cases avs tm a.toList <;> cases avs tm c.toList <;> rfl
  case call c =>
    obtain ⟨callee, args, ts⟩ := c
    cases callee <;> try rfl
    next b =>
    simp only [lC_eq, ob1_eq]
    cases avs tm args.toList <;> rfl
structure RC where
  get : Tm → St → Option AV
structure LdC where
  run : St → AV → Option AV
noncomputable def ldC (t : TypeId) : LdC := match aggB P t with
  | some true => match szB P t with
    | some n => ⟨fun σ x => match x with
      | .ptr (some (b, o)) => ob1 (σ.heap.get b) fun ob => (rdF ob o n).map .agg
      | _ => none⟩
    | none => ⟨fun _ _ => none⟩
  | some false => ⟨fun σ x => match x with
      | .ptr (some (b, o)) => ob1 (σ.heap.get b) fun ob => rdO ob o
      | _ => none⟩
  | none => ⟨fun _ _ => none⟩
theorem ldC_eq (t : TypeId) (σ : St) (x : AV) : (ldC P t).run σ x = loadA P σ t x := by
  unfold ldC loadA
  cases ha : aggB P t with
  | none =>
    cases x <;> try rfl
    next p => cases p <;> first | rfl | (next p => simp only; cases σ.heap.get p.1 <;> rfl)
  | some b =>
    cases b with
    | false =>
      cases x <;> try rfl
      next p => cases p <;> first | rfl | (next p => simp only [ob1_eq]; cases σ.heap.get p.1 <;> rfl)
    | true =>
      simp only
      cases hs : szB P t with
      | none =>
        cases x <;> try rfl
        next p => cases p <;> first | rfl | (next p => simp only; cases σ.heap.get p.1 <;> rfl)
      | some n =>
        cases x <;> try rfl
        next p => cases p <;> first | rfl | (next p => simp only [ob1_eq, rdF_eq]; cases σ.heap.get p.1 <;> rfl)
noncomputable def vR (op : Op) : RC := match op with
  | .build t parts => ⟨fun tm _ => ob1 (partsA tm parts.toList) (buildA P t)⟩
  | .load t x => ⟨fun tm σ => ob1 ((aC x).get tm) ((ldC P t).run σ)⟩
  | .convert s d x => ⟨fun tm σ => ob1 ((aC x).get tm) (bytesF P σ s d)⟩
  | .lookup t m k ok => ⟨fun tm σ => ob2 ((aC m).get tm) ((aC k).get tm) fun m k => lookupA P σ t m k ok⟩
  | .call ⟨.builtin .len, args, ts⟩ => ⟨fun tm σ => match (lC args.toList).get tm, ts[0]? with
    | some [m], some t => mlenA P σ t m
    | _, _ => none⟩
  | _ => ⟨fun _ _ => none⟩
theorem vR_eq (tm : Tm) (σ : St) (o : Oper) : (vR P o.op).get tm σ = opR P tm σ o := by
  obtain ⟨dst, op, ty, pos, after, guard⟩ := o
  unfold vR opR
  cases op <;> try rfl
  case build t parts =>
    simp only [ob1_eq]
    cases partsA tm parts.toList <;> rfl
  case load t x =>
    simp only [ob1_eq, aC_eq, ldC_eq]
    cases aev tm x <;> rfl
  case convert s d x =>
    simp only [ob1_eq, aC_eq, bytesF_eq]
    cases aev tm x <;> rfl
  case lookup t m k ok =>
    simp only [ob2_eq, aC_eq]
    cases aev tm m <;> cases aev tm k <;> rfl
  case call c =>
    obtain ⟨callee, args, ts⟩ := c
    cases callee <;> try rfl
    next b =>
    cases b <;> try rfl
    simp only [lC_eq]
    rfl
/-- What kind of operation is it? 0: value; 1: value, else a read; 2: makes; 3: effect; 4: call; 5: none of them. -/
def famO (op : Op) : Nat := match op with
  | .move _ => 0
  | .assign _ => 0
  | .pick _ _ _ => 0
  | .nilCheck _ => 0
  | .binOp _ _ _ _ _ => 0
  | .unOp _ _ _ => 0
  | .fieldAddr _ _ _ => 0
  | .field _ _ _ => 0
  | .indexAddr _ _ _ => 0
  | .index _ _ _ => 0
  | .slice _ _ _ _ _ => 0
  | .extract _ _ => 0
  | .typeAssert _ _ _ _ => 0
  | .makeInterface _ _ => 0
  | .makeFunc _ _ _ => 0
  | .convert _ _ _ => 1
  | .call ⟨.builtin .len, _, _⟩ => 1
  | .build _ _ => 6
  | .load _ _ => 6
  | .lookup _ _ _ _ => 6
  | .alloc _ => 2
  | .box _ _ => 2
  | .buildSlice _ _ _ => 2
  | .makeSlice _ _ _ => 2
  | .makeMap _ _ => 2
  | .store _ _ _ => 3
  | .mapUpdate _ _ _ _ => 3
  | .range _ _ => 3
  | .next _ _ => 3
  | .entry _ => 3
  | .call ⟨.builtin .append, _, _⟩ => 3
  | .call ⟨.builtin .copy, _, _⟩ => 3
  | .call ⟨.builtin .clear, _, _⟩ => 3
  | .call ⟨.builtin _, _, _⟩ => 5
  | .call ⟨.value _, _, _⟩ => 4
  | _ => 5
/-- A step of one operation. -/
noncomputable def stepV (call : CallF) (tm : Tm) (σ : St) (o : Oper) : Option (AV × St) := match callA tm o with
  | some (f, vs) => call f vs σ
  | none => opX P tm σ o
/-- An effect. -/
noncomputable def eC (o : Oper) : Tm → St → Option (AV × St) := match o.op with
  | .store t x y => fun tm σ => ob1 ((aC x).get tm) fun x => ob1 ((aC y).get tm) fun y => ob1 (storeF P σ t x y) fun σ' => some (.tup [], σ')
  | .call ⟨.builtin .copy, args, ts⟩ => fun tm σ => match (lC args.toList).get tm, ts.toList with
    | some [s, x], [dT, _] => copyF P σ dT s x
    | _, _ => none
  | _ => fun tm σ => opE P tm σ o
theorem eC_eq (o : Oper) (tm : Tm) (σ : St) : eC P o tm σ = opE P tm σ o := by
  obtain ⟨dst, op, ty, pos, after, guard⟩ := o
  unfold eC
  cases op <;> try rfl
  case store t x y =>
    simp only [opE, aC_eq, ob1_eq, storeF_eq]
    cases aev tm x <;> cases aev tm y <;> try rfl
    next u v => simp only; cases storeA P σ t u v <;> rfl
  case call c =>
    obtain ⟨callee, args, ts⟩ := c
    cases callee <;> try rfl
    next b =>
    cases b <;> try rfl
    simp only [opE, lC_eq, copyF_eq]
    rfl
structure OC where
  run : CallF → Tm → St → Option (AV × St)
noncomputable def pv (r : Option AV) (σ : St) : Option (AV × St) := Option.rec (motive := fun _ => Option (AV × St)) none (fun v => some (v, σ)) r
theorem pv_eq (r : Option AV) (σ : St) : pv r σ = match r with
  | some v => some (v, σ)
  | none => none := by cases r <;> rfl
noncomputable def addO (σ : St) (r : Option (AV × AO)) : Option (AV × St) := Option.rec (motive := fun _ => Option (AV × St)) none (fun p => bif Tr.inB σ.next then some (p.1, σ.add p.2) else none) r
noncomputable def callC (op : Op) : OC := match op with
  | .call ⟨.value f, args, _⟩ => ⟨fun call tm σ => match (aC f).get tm, (lC args.toList).get tm with
    | some (.func g x y), some vs => call g (x ++ (vs ++ y)) σ
    | _, _ => none⟩
  | _ => ⟨fun _ _ _ => none⟩
noncomputable def slowO (o : Oper) : OC := ⟨fun call tm σ => stepV P call tm σ o⟩
noncomputable def oC (o : Oper) : OC := match famO o.op with
  | 0 => ⟨fun _ tm σ => pv ((vP P o.op).get tm) σ⟩
  | 1 => ⟨fun _ tm σ => Option.rec (motive := fun _ => Option (AV × St)) (pv ((vR P o.op).get tm σ) σ) (fun v => some (v, σ)) ((vP P o.op).get tm)⟩
  | 6 => ⟨fun _ tm σ => pv ((vR P o.op).get tm σ) σ⟩
  | 2 => ⟨fun _ tm σ => addO σ (opA P tm σ.next o)⟩
  | 3 => ⟨fun _ tm σ => eC P o tm σ⟩
  | 4 => callC o.op
  | _ => slowO P o
theorem fam0 {o : Oper} (h : famO o.op = 0) (tm : Tm) (σ : St) (nx : Nat) : callA tm o = none ∧ opR P tm σ o = none ∧ opA P tm nx o = none ∧ opE P tm σ o = none := by
  obtain ⟨dst, op, ty, pos, after, guard⟩ := o
  cases op <;> first | exact ⟨rfl, rfl, rfl, rfl⟩ | (cases h; done) | skip
  next c =>
  obtain ⟨callee, args, ts⟩ := c
  cases callee <;> first | (cases h; done) | skip
  next b => cases b <;> cases h
theorem fam1 {o : Oper} (h : famO o.op = 1) (tm : Tm) (σ : St) (nx : Nat) : callA tm o = none ∧ opA P tm nx o = none ∧ opE P tm σ o = none := by
  obtain ⟨dst, op, ty, pos, after, guard⟩ := o
  cases op <;> first | exact ⟨rfl, rfl, rfl⟩ | (cases h; done) | skip
  next c =>
  obtain ⟨callee, args, ts⟩ := c
  cases callee <;> first | (cases h; done) | skip
  next b => cases b <;> first | exact ⟨rfl, rfl, rfl⟩ | cases h
theorem fam6 {o : Oper} (h : famO o.op = 6) (tm : Tm) (σ : St) (nx : Nat) : callA tm o = none ∧ opP P tm o = none ∧ opA P tm nx o = none ∧ opE P tm σ o = none := by
  obtain ⟨dst, op, ty, pos, after, guard⟩ := o
  cases op <;> first | exact ⟨rfl, rfl, rfl, rfl⟩ | (cases h; done) | skip
  next c =>
  obtain ⟨callee, args, ts⟩ := c
  cases callee <;> first | (cases h; done) | skip
  next b => cases b <;> cases h
theorem fam2 {o : Oper} (h : famO o.op = 2) (tm : Tm) (σ : St) : callA tm o = none ∧ opP P tm o = none ∧ opR P tm σ o = none ∧ opE P tm σ o = none := by
  obtain ⟨dst, op, ty, pos, after, guard⟩ := o
  cases op <;> first | exact ⟨rfl, rfl, rfl, rfl⟩ | (cases h; done) | skip
  next c =>
  obtain ⟨callee, args, ts⟩ := c
  cases callee <;> first | (cases h; done) | skip
  next b => cases b <;> cases h
theorem fam3 {o : Oper} (h : famO o.op = 3) (tm : Tm) (σ : St) (nx : Nat) : callA tm o = none ∧ opP P tm o = none ∧ opR P tm σ o = none ∧ opA P tm nx o = none := by
  obtain ⟨dst, op, ty, pos, after, guard⟩ := o
  cases op <;> first | exact ⟨rfl, rfl, rfl, rfl⟩ | (cases h; done) | skip
  next c =>
  obtain ⟨callee, args, ts⟩ := c
  cases callee <;> first | (cases h; done) | skip
  next b => cases b <;> first | (cases h; done) | (refine ⟨rfl, ?_, rfl, rfl⟩; simp only [opP]; cases avs tm args.toList <;> rfl)
theorem fam4 {o : Oper} (h : famO o.op = 4) (tm : Tm) (σ : St) (nx : Nat) : opP P tm o = none ∧ opR P tm σ o = none ∧ opA P tm nx o = none ∧ opE P tm σ o = none := by
  obtain ⟨dst, op, ty, pos, after, guard⟩ := o
  cases op <;> first | (cases h; done) | skip
  next c =>
  obtain ⟨callee, args, ts⟩ := c
  cases callee <;> first | exact ⟨rfl, rfl, rfl, rfl⟩ | (cases h; done) | skip
  next b => cases b <;> cases h
theorem oC_eq (call : CallF) (tm : Tm) (σ : St) (o : Oper) : (oC P o).run call tm σ = stepV P call tm σ o := by
  unfold oC
  split
  · next h =>
    obtain ⟨h1, h2, h3, h4⟩ := fam0 P h tm σ σ.next
    simp only [stepV, opX, h1, h2, h3, h4, vP_eq, pv_eq]
    cases opP P tm o <;> rfl
  · next h =>
    obtain ⟨h1, h2, h3⟩ := fam1 P h tm σ σ.next
    simp only [stepV, opX, h1, h2, h3, vP_eq, vR_eq, pv_eq]
    cases opP P tm o <;> rfl
  · next h =>
    obtain ⟨h1, h2, h3, h4⟩ := fam6 P h tm σ σ.next
    simp only [stepV, opX, h1, h2, h3, h4, vR_eq, pv_eq]
    cases opR P tm σ o <;> rfl
  · next h =>
    obtain ⟨h1, h2, h3, h4⟩ := fam2 P h tm σ
    simp only [stepV, opX, h1, h2, h3, h4, addO]
    cases opA P tm σ.next o <;> rfl
  · next h =>
    obtain ⟨h1, h2, h3, h4⟩ := fam3 P h tm σ σ.next
    simp only [stepV, opX, h1, h2, h3, h4, eC_eq]
  · next h =>
    obtain ⟨h1, h2, h3, h4⟩ := fam4 P h tm σ σ.next
    simp only [stepV, opX, h1, h2, h3, h4]
    obtain ⟨dst, op, ty, pos, after, guard⟩ := o
    cases op <;> first | (cases h; done) | skip
    next c =>
    obtain ⟨callee, args, ts⟩ := c
    cases callee <;> first | (cases h; done) | skip
    · next f =>
      simp only [callC, callA, aC_eq, lC_eq]
      cases aev tm f with
      | none => rfl
      | some v => cases v <;> cases avs tm args.toList <;> rfl
    · next b => cases b <;> cases h
  · rfl
end
end Go.Proofs.YtopbojifllnckaaGreatDoor
