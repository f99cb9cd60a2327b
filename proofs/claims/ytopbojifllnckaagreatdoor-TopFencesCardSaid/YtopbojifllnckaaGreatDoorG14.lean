/- The evaluator laid out for the kernel: what hangs on the text alone is done once. -/
import Derived.Test.YtopbojifllnckaaGreatDoorG13
namespace Go.Proofs.YtopbojifllnckaaGreatDoor
/-! ### slots -/
structure GC where
  get : Tm → Option AV
noncomputable def gC (k : Nat) : GC := ⟨fun t => (s16 (Option AV) (Nat.mod k 16)).run ((s16 (N16 (Option AV)) (Nat.div k 16)).run t)⟩
theorem gC_eq {k : Nat} (t : Tm) (h : k < 256) : (gC k).get t = t.get k := by
  have e : (Nat.blt k 256 = true) = (k < 256) := Nat.blt_eq
  unfold gC Tm.get
  rw [e.mpr h]
  rfl
structure PC where
  put : AV → Tm → Tm
noncomputable def pC (k : Nat) : PC := ⟨fun v t => (u16 (N16 (Option AV)) (Nat.div k 16)).run ((u16 (Option AV) (Nat.mod k 16)).run fun _ => some v) t⟩
theorem pC_eq (x : AV) (k : Nat) (t : Tm) : (pC k).put x t = Tm.put x t k := rfl
noncomputable def aC (x : Operand) : GC := match x with
  | .tmp t => bif Tm.inT t then gC t else ⟨fun tm => tm.get t⟩
  | .const v => ⟨fun _ => absV v⟩
  | .func f => ⟨fun _ => some (.func f [] [])⟩
  | .global _ => ⟨fun _ => none⟩
theorem aC_eq (x : Operand) (tm : Tm) : (aC x).get tm = aev tm x := by
  cases x with
  | tmp t =>
    show (bif Tm.inT t then gC t else (⟨fun tm => tm.get t⟩ : GC)).get tm = tm.get t
    cases h : Tm.inT t with
    | false => rfl
    | true => exact gC_eq tm (Tm.inT_lt h)
  | _ => rfl
noncomputable def dC (nt : Nat) (d : Option Nat) : Option PC := match d with
  | none => some ⟨fun _ t => t⟩
  | some d => bif Nat.blt d nt && Tm.inT d then some (pC d) else none
theorem dC_eq (nt : Nat) (d : Option Nat) (v : AV) (tm : Tm) : putA nt d v tm = (dC nt d).map fun p => p.put v tm := by
  cases d with
  | none => rfl
  | some d =>
    show (bif Nat.blt d nt && Tm.inT d then some (Tm.put v tm d) else none) = (bif Nat.blt d nt && Tm.inT d then some (pC d) else none).map fun p => p.put v tm
    cases h : (Nat.blt d nt && Tm.inT d) with
    | false => rfl
    | true => rfl
/-! ### binding -/
noncomputable def ob1 {α β : Type} (r : Option α) (f : α → Option β) : Option β := Option.rec (motive := fun _ => Option β) none (fun v => f v) r
theorem ob1_eq {α β : Type} (r : Option α) (f : α → Option β) : ob1 r f = match r with
  | some v => f v
  | none => none := by cases r <;> rfl
noncomputable def ob2 (r s : Option AV) (f : AV → AV → Option AV) : Option AV := Option.rec (motive := fun _ => Option AV) none (fun v => Option.rec (motive := fun _ => Option AV) none (fun u => f v u) s) r
theorem ob2_eq (r s : Option AV) (f : AV → AV → Option AV) : ob2 r s f = match r, s with
  | some v, some u => f v u
  | _, _ => none := by cases r <;> cases s <;> rfl
structure LC where
  get : Tm → Option (List AV)
noncomputable def lC : List Operand → LC
  | [] => ⟨fun _ => some []⟩
  | x :: xs => ⟨fun tm => ob1 ((aC x).get tm) fun v => ob1 ((lC xs).get tm) fun vs => some (v :: vs)⟩
theorem lC_eq : ∀ (xs : List Operand) (tm : Tm), (lC xs).get tm = avs tm xs
  | [], _ => rfl
  | x :: xs, tm => by
    show ob1 ((aC x).get tm) (fun v => ob1 ((lC xs).get tm) fun vs => some (v :: vs)) = _
    unfold avs
    rw [aC_eq, lC_eq xs tm]
    cases aev tm x <;> cases avs tm xs <;> rfl
/-! ### operations that read no memory -/
structure UC where
  run : AV → Option AV
structure BC where
  run : AV → AV → Option AV
structure IC where
  run : IntKind → Int → Int → Option AV
noncomputable def nilA : AV → Option AV
  | .ptr (some p) => some (.ptr (some p))
  | .func f a c => some (.func f a c)
  | .iface t v => some (.iface t v)
  | _ => none
noncomputable def extA (i : Nat) : AV → Option AV
  | .tup vs => vs[i]?
  | _ => none
noncomputable def kMax (k : IntKind) : Nat := IntKind.rec (motive := fun _ => Nat) 128 32768 2147483648 9223372036854775808 256 65536 4294967296 18446744073709551616 k
noncomputable def kFull (k : IntKind) : Nat := IntKind.rec (motive := fun _ => Nat) 256 65536 4294967296 18446744073709551616 256 65536 4294967296 18446744073709551616 k
noncomputable def kBits (k : IntKind) : Nat := IntKind.rec (motive := fun _ => Nat) 8 16 32 64 8 16 32 64 k
theorem kBits_eq (k : IntKind) : kBits k = k.bits := by cases k <;> rfl
theorem kFull_eq (k : IntKind) : kFull k = 2 ^ k.bits := by cases k <;> rfl
noncomputable def wrF (k : IntKind) (n : Int) : Int := Int.rec (motive := fun _ => Int) (fun m => bif Nat.blt m (kMax k) then .ofNat m else k.wrap (.ofNat m)) (fun m => k.wrap (.negSucc m)) n
theorem wrF_eq (k : IntKind) (n : Int) : wrF k n = wr k n := by
  rw [wr_eq]
  cases n with
  | negSucc m => rfl
  | ofNat m =>
    show (bif Nat.blt m (kMax k) then Int.ofNat m else k.wrap (.ofNat m)) = k.wrap (.ofNat m)
    cases h : Nat.blt m (kMax k) with
    | false => rfl
    | true =>
      have h1 := blt_lt h
      have e : (Int.ofNat m : Int) = (m : Int) := rfl
      simp only [cond_true]
      rw [e]
      cases k <;> simp [IntKind.wrap, IntKind.bits, IntKind.signed, kMax] at h1 ⊢ <;> omega
theorem blt_dec (m n : Nat) : Nat.blt m n = decide (m < n) := by
  cases h : Nat.blt m n with
  | true => have := blt_lt h; simp [this]
  | false =>
    have : ¬ m < n := fun hl => by
      have e : (Nat.blt m n = true) = (m < n) := Nat.blt_eq
      rw [e.mpr hl] at h
      cases h
    simp [this]
theorem ble_dec (m n : Nat) : Nat.ble m n = decide (m ≤ n) := by
  cases h : Nat.ble m n with
  | true => have := Nat.le_of_ble_eq_true h; simp [this]
  | false =>
    have : ¬ m ≤ n := fun hl => by
      rw [Nat.ble_eq_true_of_le hl] at h
      cases h
    simp [this]
theorem beq_dec (m n : Nat) : Nat.beq m n = decide (m = n) := by
  cases h : Nat.beq m n with
  | true => have := beq_eq h; simp [this]
  | false =>
    have : ¬ m = n := fun hl => by subst hl; simp at h
    simp [this]
/-- Two whole numbers that are not negative, else the long way. -/
noncomputable def nn {α : Type} (f : Nat → Nat → α) (g : α) (a b : Int) : α := Int.rec (motive := fun _ => α) (fun m => Int.rec (motive := fun _ => α) (fun n => f m n) (fun _ => g) b) (fun _ => g) a
theorem nn_eq {α : Type} {f : Nat → Nat → α} {g : α} {a b : Int} (h : ∀ m n, a = .ofNat m → b = .ofNat n → f m n = g) : nn f g a b = g := by
  cases a with
  | negSucc m => rfl
  | ofNat m =>
    cases b with
    | negSucc n => rfl
    | ofNat n => exact h m n rfl rfl
noncomputable def iC (op : BinOp) : IC := match op with
  | .add => ⟨fun k a b => nn (fun m n => some (.int k (wrF k (.ofNat (Nat.add m n))))) (intBin .add k a b) a b⟩
  | .sub => ⟨fun k a b => nn (fun m n => bif Nat.ble n m then some (.int k (wrF k (.ofNat (Nat.sub m n)))) else intBin .sub k a b) (intBin .sub k a b) a b⟩
  | .mul => ⟨fun k a b => nn (fun m n => some (.int k (wrF k (.ofNat (Nat.mul m n))))) (intBin .mul k a b) a b⟩
  | .or => ⟨fun k a b => nn (fun m n => some (.int k (wrF k (.ofNat (Nat.lor (Nat.mod m (kFull k)) (Nat.mod n (kFull k))))))) (intBin .or k a b) a b⟩
  | .and => ⟨fun k a b => nn (fun m n => some (.int k (wrF k (.ofNat (Nat.land (Nat.mod m (kFull k)) (Nat.mod n (kFull k))))))) (intBin .and k a b) a b⟩
  | .xor => ⟨fun k a b => nn (fun m n => some (.int k (wrF k (.ofNat (Nat.xor (Nat.mod m (kFull k)) (Nat.mod n (kFull k))))))) (intBin .xor k a b) a b⟩
  | .eql => ⟨fun k a b => nn (fun m n => some (.bool (Nat.beq m n))) (intBin .eql k a b) a b⟩
  | .neq => ⟨fun k a b => nn (fun m n => some (.bool (!Nat.beq m n))) (intBin .neq k a b) a b⟩
  | .lss => ⟨fun k a b => nn (fun m n => some (.bool (Nat.blt m n))) (intBin .lss k a b) a b⟩
  | .leq => ⟨fun k a b => nn (fun m n => some (.bool (Nat.ble m n))) (intBin .leq k a b) a b⟩
  | .gtr => ⟨fun k a b => nn (fun m n => some (.bool (Nat.blt n m))) (intBin .gtr k a b) a b⟩
  | .geq => ⟨fun k a b => nn (fun m n => some (.bool (Nat.ble n m))) (intBin .geq k a b) a b⟩
  | op => ⟨fun k a b => intBin op k a b⟩
theorem ofInt_nat (w m : Nat) : (BitVec.ofInt w (Int.ofNat m)).toNat = m % 2 ^ w := by
  have e : (Int.ofNat m : Int) = (m : Int) := rfl
  rw [e, BitVec.toNat_ofInt]
  omega
theorem iC_eq (op : BinOp) (k : IntKind) (a b : Int) : (iC op).run k a b = intBin op k a b := by
  have c1 : ∀ m : Nat, (Int.ofNat m : Int) = (m : Int) := fun _ => rfl
  cases op <;> try rfl
  all_goals refine nn_eq fun m n ha hb => ?_
  all_goals subst ha hb
  all_goals simp only [intBin, wrF_eq, blt_dec, ble_dec, beq_dec, BitVec.toNat_or, BitVec.toNat_and, BitVec.toNat_xor, ofInt_nat, kFull_eq]
  case sub =>
    cases h : decide (n ≤ m) with
    | false => rfl
    | true =>
      have h1 := of_decide_eq_true h
      simp only [cond_true]
      congr 3
      simp only [c1]
      have : Nat.sub m n = m - n := rfl
      omega
  case eql => congr 2; rw [Bool.eq_iff_iff]; simp; omega
  case neq => congr 2; rw [Bool.eq_iff_iff]; simp; omega
  case lss => congr 2; rw [Bool.eq_iff_iff]; simp
  case leq => congr 2; rw [Bool.eq_iff_iff]; simp
  case gtr => congr 2; rw [Bool.eq_iff_iff]; simp
  case geq => congr 2; rw [Bool.eq_iff_iff]; simp
  all_goals rfl
noncomputable def shC (op : BinOp) (k : IntKind) (a b : Int) : Option AV := match op with
  | .shl => nn (fun m n => some (.int k (wrF k (.ofNat (Nat.shiftLeft m (bif Nat.ble n (kBits k) then n else kBits k)))))) (shBin .shl k a b) a b
  | .shr => nn (fun m n => some (.int k (.ofNat (Nat.shiftRight m (bif Nat.ble n (kBits k) then n else kBits k))))) (shBin .shr k a b) a b
  | op => shBin op k a b
theorem min_bif (n m : Nat) : (bif Nat.ble n m then n else m) = min n m := by
  rw [ble_dec]
  by_cases h : n ≤ m
  · simp [h]
  · simp [h]; omega
theorem shC_eq (op : BinOp) (k : IntKind) (a b : Int) : shC op k a b = shBin op k a b := by
  have c1 : ∀ m : Nat, (Int.ofNat m : Int) = (m : Int) := fun _ => rfl
  unfold shC
  split
  all_goals try rfl
  all_goals refine nn_eq fun m n ha hb => ?_
  all_goals subst ha hb
  all_goals
    have h0 : decide ((Int.ofNat n : Int) < 0) = false := by simp
    simp only [shBin, h0, cond_false, wrF_eq, min_bif, kBits_eq]
  · congr 3
    simp only [c1, Int.toNat_natCast]
    have : Nat.shiftLeft m (min n k.bits) = m * 2 ^ (min n k.bits) := Nat.shiftLeft_eq m _
    rw [this]
    simp
  · congr 2
    simp only [c1, Int.toNat_natCast]
    have : Nat.shiftRight m (min n k.bits) = m / 2 ^ (min n k.bits) := Nat.shiftRight_eq_div_pow m _
    rw [this]
    have e2 : (2 : Int) ^ (min n k.bits) = ((2 ^ (min n k.bits) : Nat) : Int) := by simp
    rw [e2]
    exact Int.ofNat_fdiv _ _
section
variable (P : Program)
noncomputable def binC (op : BinOp) (t : TypeId) (cst : Bool) : BC := match op with
  | .shl => ⟨fun x y => match x, y with
    | .int k a, .int _ b => shC .shl k a b
    | x, y => binA P .shl t cst x y⟩
  | .shr => ⟨fun x y => match x, y with
    | .int k a, .int _ b => shC .shr k a b
    | x, y => binA P .shr t cst x y⟩
  | op => ⟨fun x y => match x, y with
    | .int k a, .int k' b => bif Nat.beq k.ctorIdx k'.ctorIdx then (iC op).run k a b else none
    | x, y => binA P op t cst x y⟩
theorem kind_eq (k k' : IntKind) : Nat.beq k.ctorIdx k'.ctorIdx = decide (k = k') := by cases k <;> cases k' <;> rfl
theorem binC_eq (op : BinOp) (t : TypeId) (cst : Bool) (x y : AV) : (binC P op t cst).run x y = binA P op t cst x y := by
  have key : ∀ (op : BinOp), op ≠ .shl → op ≠ .shr → (match x, y with
    | .int k a, .int k' b => bif Nat.beq k.ctorIdx k'.ctorIdx then (iC op).run k a b else none
    | x, y => binA P op t cst x y) = binA P op t cst x y := fun op h1 h2 => by
    cases x <;> cases y <;> try rfl
    next k a k' b =>
    simp only [kind_eq, iC_eq]
    cases op <;> first | exact absurd rfl h1 | exact absurd rfl h2 | rfl
  cases op <;> first | exact key _ (by decide) (by decide) | skip
  · cases x <;> cases y <;> try rfl
    next k a k' b => exact shC_eq .shl k a b
  · cases x <;> cases y <;> try rfl
    next k a k' b => exact shC_eq .shr k a b
noncomputable def convC (src dst : TypeId) : UC := match P.underlying src, P.underlying dst with
  | some _, some (.int k) => ⟨fun x => match x with | .int _ n => some (.int k (wrF k n)) | _ => none⟩
  | some _, some .string => ⟨fun x => match x with | .str s => some (.str s) | _ => none⟩
  | _, _ => ⟨fun _ => none⟩
theorem convC_eq (s d : TypeId) (x : AV) : (convC P s d).run x = convA P s d x := by
  unfold convC convA
  cases P.underlying s with
  | none => cases P.underlying d <;> rfl
  | some u =>
    cases P.underlying d with
    | none => rfl
    | some v => cases v <;> first | rfl | (cases x <;> first | rfl | (simp only [wrF_eq]))
noncomputable def faC (t : TypeId) (i : Nat) : UC := match P.underlying t with
  | some (.struct fs) => match fs[i]? with
    | some f => match szB P f.type with
      | some (_ + 1) => match f.offset with
        | 0 => ⟨fun x => match x with | .ptr (some p) => some (.ptr (some p)) | _ => none⟩
        | off => ⟨fun x => match x with | .ptr (some (b, o)) => some (.ptr (some (b, o + off))) | _ => none⟩
      | _ => ⟨fun _ => none⟩
    | none => ⟨fun _ => none⟩
  | _ => ⟨fun _ => none⟩
theorem faC_eq (t : TypeId) (i : Nat) (x : AV) : (faC P t i).run x = fieldAddrA P t x i := by
  unfold faC fieldAddrA
  cases hu : P.underlying t with
  | none => rfl
  | some u =>
    cases u <;> try rfl
    next fs =>
    simp only
    cases hf : fs[i]? with
    | none => cases x <;> first | rfl | (next p => cases p <;> first | rfl | (simp only [hf]))
    | some f =>
      simp only
      cases hs : szB P f.type with
      | none => cases x <;> first | rfl | (next p => cases p <;> first | rfl | (simp only [hf, hs]))
      | some n =>
        cases n with
        | zero => cases x <;> first | rfl | (next p => cases p <;> first | rfl | (simp only [hf, hs]))
        | succ n =>
          simp only
          cases ho : f.offset with
          | zero => cases x <;> first | rfl | (next p => cases p <;> first | rfl | (simp only [hf, hs, ho, Nat.add_zero]))
          | succ m => cases x <;> first | rfl | (next p => cases p <;> first | rfl | (simp only [hf, hs, ho]))
noncomputable def iaC (t : TypeId) : BC := match P.underlying t with
  | some (.array n e) => match szB P e with
    | some s => ⟨fun x i => match x, ixOf i with | .ptr (some (b, o)), some j => bif Nat.blt j n then some (.ptr (some (b, o + j * s))) else none | _, _ => none⟩
    | none => ⟨fun _ _ => none⟩
  | some (.slice e) => match szB P e with
    | some s => ⟨fun x i => match x, ixOf i with | .slc (some (b, o)) n _ _, some j => bif Nat.blt j n then some (.ptr (some (b, o + j * s))) else none | _, _ => none⟩
    | none => ⟨fun _ _ => none⟩
  | _ => ⟨fun _ _ => none⟩
theorem iaC_eq (t : TypeId) (x i : AV) : (iaC P t).run x i = indexAddrA P t x i := by
  unfold iaC indexAddrA
  cases hu : P.underlying t with
  | none => rfl
  | some u =>
    cases u <;> try rfl
    case slice e =>
      simp only
      cases hs : szB P e with
      | none =>
        cases x <;> try rfl
        next p n c ex => cases p <;> cases hj : ixOf i <;> first | rfl | simp only [hs]
      | some m =>
        cases x <;> try rfl
        next p n c ex => cases p <;> cases hj : ixOf i <;> first | rfl | simp only [hs, hj]
    case array n e =>
      simp only
      cases hs : szB P e with
      | none =>
        cases x <;> try rfl
        next p => cases p <;> cases hj : ixOf i <;> first | rfl | simp only [hs]
      | some m =>
        cases x <;> try rfl
        next p => cases p <;> cases hj : ixOf i <;> first | rfl | simp only [hs, hj]
end
end Go.Proofs.YtopbojifllnckaaGreatDoor
