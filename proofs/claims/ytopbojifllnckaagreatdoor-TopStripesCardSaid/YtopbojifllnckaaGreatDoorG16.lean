/- What stands in for a function's own text: sums.More. The shelf's contracts at this program (plain words, printed by the kit's own tool), and what stands in for these functions. What stands in for the library's functions. Functions that defer one call, which finds no panic. The specials of this program, all of them. -/
import Derived.Shelf.Small.Strs
import Derived.Shelf.Strings.Search1
import Derived.Shelf.Strings.Search2
import Derived.Shelf.Strings.Count
import Derived.Shelf.Strings.Repeat
import Derived.Defers
import Derived.Recover
import Derived.Test.YtopbojifllnckaaGreatDoorG15
import Derived.Test.YtopbojifllnckaaGreatDoorHSpA
namespace Go.Proofs.YtopbojifllnckaaGreatDoor
noncomputable def bitN (c : Nat) : Nat := Nat.xor (Nat.shiftRight c 1) (bif Nat.beq (Nat.mod c 2) 1 then 3988292384 else 0)
theorem bitN_eq (c : BitVec 32) : (bit1 c).toNat = bitN c.toNat := by
  have e : ∀ n : Nat, Nat.mod n 2 = n % 2 := fun _ => rfl
  unfold bitN
  rw [e]
  rcases Nat.mod_two_eq_zero_or_one c.toNat with h | h
  · have e2 : c &&& 1#32 = 0#32 := by
      apply BitVec.eq_of_toNat_eq
      rw [BitVec.toNat_and]
      show c.toNat &&& 1 = _
      rw [Nat.and_one_is_mod, h]
      rfl
    rw [h, bit1, e2, BitVec.toNat_xor, BitVec.toNat_ushiftRight]
    rfl
  · have e2 : c &&& 1#32 = 1#32 := by
      apply BitVec.eq_of_toNat_eq
      rw [BitVec.toNat_and]
      show c.toNat &&& 1 = _
      rw [Nat.and_one_is_mod, h]
      rfl
    rw [h, bit1, e2, BitVec.toNat_xor, BitVec.toNat_ushiftRight]
    rfl
noncomputable def bitsNat (k : Nat) : Nat → Nat := Nat.rec (motive := fun _ => Nat → Nat) (fun c => c) (fun _ ih c => ih (bitN c)) k
theorem bitsNat_eq : ∀ (k : Nat) (c : BitVec 32), (bitsN k c).toNat = bitsNat k c.toNat
  | 0, _ => rfl
  | k + 1, c => by
    show (bitsN k (bit1 c)).toNat = bitsNat k (bitN c.toNat)
    rw [bitsNat_eq k, bitN_eq]
noncomputable def runNat (l : List UInt8) : Nat → Nat := List.rec (motive := fun _ => Nat → Nat) (fun c => c) (fun b _ ih c => ih (bitsNat 8 (Nat.xor c b.toNat))) l
theorem runNat_eq : ∀ (l : List UInt8) (c : BitVec 32), (runB c l).toNat = runNat l c.toNat
  | [], _ => rfl
  | b :: l, c => by
    show (runB (stepB c b) l).toNat = runNat l (bitsNat 8 (Nat.xor c.toNat b.toNat))
    rw [runNat_eq l]
    congr 1
    unfold stepB eightB
    rw [bitsNat_eq, BitVec.toNat_xor]
    congr 2
    unfold byteB
    have := b.toNat_lt
    rw [BitVec.toNat_ofNat, Nat.mod_eq_of_lt (by omega)]
noncomputable def moreNat (n : Nat) (l : List UInt8) : Nat := Nat.sub 4294967295 (runNat l (Nat.sub 4294967295 n))
theorem moreNat_eq (x : BitVec 32) (l : List UInt8) : (moreB x l).toNat = moreNat x.toNat l := by
  unfold moreB moreNat
  rw [BitVec.toNat_not, runNat_eq, BitVec.toNat_not]
  rfl
/-- sums.More. -/
noncomputable def spMore : CallF → List AV → St → Option (AV × St) := fun _ args σ => match args with
  | [.int .u32 (.ofNat n), .str l] => bif Nat.blt n 4294967296 && Nat.ble l.length 9223372036854775807 then some (.int .u32 (.ofNat (moreNat n l)), σ) else none
  | _ => none
/-- One function, said of by itself. -/
def OneSound (P : Program) (f : Nat) (g : List AV → St → Option (AV × St)) : Prop := ∀ (args : List AV) (σ : St) (v : AV) (σ' : St) (E : Env) (w : World) (cargs : List Value),
  g args σ = some (v, σ') → Rel P E σ w → concs E args = some cargs → (∃ fn, P.funcs[f]? = some fn ∧ fn.body.isSome = true) ∧ Calls P f cargs.toArray w (CallPost P E σ w v σ')
theorem specs_of {P : Program} {spec : Specials} (h : ∀ (call : CallF), CallSound P call → ∀ f g, spec f = some g → OneSound P f (g call)) : SpecsSound P spec := by
  intro call hc f g hg f' args σ v σ' E w cargs hr hR ha
  by_cases hf : f' = f
  · subst hf
    simp only [if_true] at hr
    exact h call hc f' g hg args σ v σ' E w cargs hr hR ha
  · simp only [hf, if_false] at hr
    cases hr
theorem spMore_sound (call : CallF) : OneSound Tryz.prog 324 (spMore call) := by
  intro args σ v σ' E w cargs h hR hc
  unfold spMore at h
  split at h <;> first | (cases h; done) | skip
  next n l =>
  cases hb : (Nat.blt n 4294967296 && Nat.ble l.length 9223372036854775807) with
  | false => rw [hb] at h; cases h
  | true =>
    rw [hb] at h
    simp only [cond_true, Option.some.injEq, Prod.mk.injEq] at h
    obtain ⟨rfl, rfl⟩ := h
    rw [Bool.and_eq_true] at hb
    have h1 := blt_lt hb.1
    have h2 := Nat.le_of_ble_eq_true hb.2
    obtain ⟨c1, r1, rfl, k1, k2⟩ := concs_cons hc
    obtain ⟨c2, r2, rfl, k3, k4⟩ := concs_cons k2
    obtain rfl := concs_nil k4
    simp only [conc, Option.some.injEq] at k1 k3
    subst k1 k3
    refine ⟨⟨_, Tryz.func324, rfl⟩, ?_⟩
    have hn : (BitVec.ofNat 32 n).toNat = n := by rw [BitVec.toNat_ofNat]; exact Nat.mod_eq_of_lt (by omega)
    have hU : (Int.ofNat n : Int) = U (BitVec.ofNat 32 n) := by unfold U; rw [hn]; rfl
    rw [hU]
    refine (more_any (BitVec.ofNat 32 n) ⟨l.toArray⟩ w (by simpa [ByteArray.size] using h2)).mono ?_
    rintro e w' ⟨rfl, rfl⟩
    refine ⟨E, _, rfl, ?_, Step.refl hR⟩
    simp only [conc, Option.some.injEq]
    congr 1
    unfold U
    rw [moreNat_eq, hn]
    rfl
end Go.Proofs.YtopbojifllnckaaGreatDoor
namespace Go.Proofs.YtopbojifllnckaaGreatDoor
open Go.Shelf
open Go.RowKit in
def shl217_ren : Go.Shelf.Ren := ⟨fun | 217 => 357 | 266 => 364 | n => n, fun | 9 => 9 | 5 => 5 | 3 => 3 | n => n, fun | n => n⟩
theorem shl217 : Go.Proofs.Lays.n217 Tryz.prog shl217_ren := {
  mixed := by kernel_rfl
  f217 := Tryz.func357.trans (congrArg some (by kernel_rfl))
  f266 := Tryz.func364.trans (congrArg some (by kernel_rfl))
  t3 := Tryz.underlying3
  a3 := Tryz.isAgg3
  z3 := Tryz.sizeOf3
  v3 := Tryz.zeroValue3
  t5 := Tryz.underlying5
  a5 := Tryz.isAgg5
  z5 := Tryz.sizeOf5
  v5 := Tryz.zeroValue5
  t9 := Tryz.underlying9
  a9 := Tryz.isAgg9
  z9 := Tryz.sizeOf9
  v9 := Tryz.zeroValue9 }
open Go.RowKit Go.Lib in
/-- internal/stringslite.IndexByte (what strings.IndexByte calls): IT RETURNS 'Lib.indexByte s c'; the world is as it was. (LAID: no walk: one application.) -/
theorem sh_stringslite_IndexByte (s : ByteArray) (c : Int) (w : World) :
    Calls Tryz.prog 357 #[.string s, .int .u8 c] w fun e w' => e = .returned (.int .i64 (Lib.indexByte s.data.toList c.toNat.toUInt8)) ∧ w' = w := Any.stringslite_IndexByte shl217 s c w
def shl143_ren : Go.Shelf.Ren := ⟨fun | 143 => 363 | 219 => 369 | 217 => 357 | 225 => 371 | 224 => 372 | 267 => 373 | 266 => 364 | 314 => 374 | n => n, fun | 9 => 9 | 3 => 3 | 4 => 4 | 5 => 5 | 46 => 171 | 146 => 449 | 51 => 371 | n => n, fun | 1 => 0 | n => n⟩
theorem shl143 : Go.Proofs.Lays.n143 Tryz.prog shl143_ren := {
  mixed := by kernel_rfl
  f143 := Tryz.func363.trans (congrArg some (by kernel_rfl))
  f217 := Tryz.func357.trans (congrArg some (by kernel_rfl))
  f219 := Tryz.func369.trans (congrArg some (by kernel_rfl))
  f224 := Tryz.func372.trans (congrArg some (by kernel_rfl))
  f225 := Tryz.func371.trans (congrArg some (by kernel_rfl))
  f266 := Tryz.func364.trans (congrArg some (by kernel_rfl))
  f267 := Tryz.func373.trans (congrArg some (by kernel_rfl))
  f314 := Tryz.func374.trans (congrArg some (by kernel_rfl))
  t3 := Tryz.underlying3
  a3 := Tryz.isAgg3
  z3 := Tryz.sizeOf3
  v3 := Tryz.zeroValue3
  t4 := Tryz.underlying4
  a4 := Tryz.isAgg4
  z4 := Tryz.sizeOf4
  v4 := Tryz.zeroValue4
  t5 := Tryz.underlying5
  a5 := Tryz.isAgg5
  z5 := Tryz.sizeOf5
  v5 := Tryz.zeroValue5
  t9 := Tryz.underlying9
  a9 := Tryz.isAgg9
  z9 := Tryz.sizeOf9
  v9 := Tryz.zeroValue9
  t46 := Tryz.underlying171
  a46 := Tryz.isAgg171
  z46 := Tryz.sizeOf171
  v46 := Tryz.zeroValue171
  t51 := Tryz.underlying371
  a51 := Tryz.isAgg371
  z51 := Tryz.sizeOf371
  v51 := Tryz.zeroValue371
  t146 := Tryz.underlying449
  a146 := Tryz.isAgg449
  z146 := Tryz.sizeOf449
  v146 := Tryz.zeroValue449
  g1 := by kernel_rfl }
open Go.RowKit Go.Lib in
/-- strings.Index: "Index returns the index of the first instance of substr in s, or -1 if substr is not present in s.": AT A substr OF ONE BYTE c: IT RETURNS 'Lib.indexByte s c'; the world is as it was. (LAID: no walk: one application.) -/
theorem sh_strings_Index_one (s : ByteArray) (c : UInt8) (w : World) :
    Calls Tryz.prog 363 #[.string s, .string ⟨#[c]⟩] w fun e w' => e = .returned (.int .i64 (Lib.indexByte s.data.toList c)) ∧ w' = w := Any.strings_Index_one shl143 s c w
def shl138_ren : Go.Shelf.Ren := ⟨fun | 138 => 362 | 195 => 366 | 218 => 368 | 143 => 363 | 219 => 369 | 217 => 357 | 225 => 371 | 224 => 372 | 267 => 373 | 266 => 364 | 314 => 374 | n => n, fun | 9 => 9 | 3 => 3 | 4 => 4 | 5 => 5 | 0 => 0 | 46 => 171 | 146 => 449 | 51 => 371 | n => n, fun | 1 => 0 | n => n⟩
theorem shl138 : Go.Proofs.Lays.n138 Tryz.prog shl138_ren := {
  mixed := by kernel_rfl
  f138 := Tryz.func362.trans (congrArg some (by kernel_rfl))
  f143 := Tryz.func363.trans (congrArg some (by kernel_rfl))
  f195 := Tryz.func366.trans (congrArg some (by kernel_rfl))
  f217 := Tryz.func357.trans (congrArg some (by kernel_rfl))
  f218 := Tryz.func368.trans (congrArg some (by kernel_rfl))
  f219 := Tryz.func369.trans (congrArg some (by kernel_rfl))
  f224 := Tryz.func372.trans (congrArg some (by kernel_rfl))
  f225 := Tryz.func371.trans (congrArg some (by kernel_rfl))
  f266 := Tryz.func364.trans (congrArg some (by kernel_rfl))
  f267 := Tryz.func373.trans (congrArg some (by kernel_rfl))
  f314 := Tryz.func374.trans (congrArg some (by kernel_rfl))
  t0 := Tryz.underlying0
  a0 := Tryz.isAgg0
  z0 := Tryz.sizeOf0
  v0 := Tryz.zeroValue0
  t3 := Tryz.underlying3
  a3 := Tryz.isAgg3
  z3 := Tryz.sizeOf3
  v3 := Tryz.zeroValue3
  t4 := Tryz.underlying4
  a4 := Tryz.isAgg4
  z4 := Tryz.sizeOf4
  v4 := Tryz.zeroValue4
  t5 := Tryz.underlying5
  a5 := Tryz.isAgg5
  z5 := Tryz.sizeOf5
  v5 := Tryz.zeroValue5
  t9 := Tryz.underlying9
  a9 := Tryz.isAgg9
  z9 := Tryz.sizeOf9
  v9 := Tryz.zeroValue9
  t46 := Tryz.underlying171
  a46 := Tryz.isAgg171
  z46 := Tryz.sizeOf171
  v46 := Tryz.zeroValue171
  t51 := Tryz.underlying371
  a51 := Tryz.isAgg371
  z51 := Tryz.sizeOf371
  v51 := Tryz.zeroValue371
  t146 := Tryz.underlying449
  a146 := Tryz.isAgg449
  z146 := Tryz.sizeOf449
  v146 := Tryz.zeroValue449
  g1 := by kernel_rfl }
open Go.RowKit Go.Lib in
/-- strings.Count AT A substr OF ONE BYTE ('hp'): "Count counts the number of non-overlapping instances of substr in s.": IT RETURNS 'Lib.countByte s (that byte)'; the world is as it was. ✋ NO CONTRACT HERE YET at an empty substr (utf8.RuneCountInString) or at a longer one (a loop over strings.Index). (LAID: no walk: one application.) -/
theorem sh_strings_Count_one (s : ByteArray) (c : UInt8) (w : World) :
    Calls Tryz.prog 362 #[.string s, .string ⟨#[c]⟩] w fun e w' => e = .returned (.int .i64 (Lib.countByte s.data.toList c)) ∧ w' = w := Any.strings_Count_one shl138 s c w
def shl105_ren : Go.Shelf.Ren := ⟨fun | 105 => 238 | 212 => 296 | 99 => 297 | 165 => 298 | 166 => 299 | 170 => 300 | 169 => 301 | 263 => 329 | 264 => 330 | 206 => 331 | 240 => 332 | 241 => 333 | 276 => 351 | 277 => 352 | n => n, fun | 9 => 9 | 3 => 3 | 4 => 4 | 20 => 20 | 0 => 0 | 46 => 171 | 109 => 414 | 5 => 5 | 72 => 418 | 76 => 419 | 51 => 371 | 146 => 449 | 53 => 44 | 148 => 451 | 70 => 416 | 37 => 172 | 75 => 333 | 127 => 453 | 164 => 480 | 80 => 207 | n => n, fun | n => n⟩
theorem shl105 : Go.Proofs.Lays.n105 Tryz.prog shl105_ren := {
  mixed := by kernel_rfl
  f99 := Tryz.func297.trans (congrArg some (by kernel_rfl))
  f105 := Tryz.func238.trans (congrArg some (by kernel_rfl))
  f165 := Tryz.func298.trans (congrArg some (by kernel_rfl))
  f166 := Tryz.func299.trans (congrArg some (by kernel_rfl))
  f169 := Tryz.func301.trans (congrArg some (by kernel_rfl))
  f170 := Tryz.func300.trans (congrArg some (by kernel_rfl))
  f206 := Tryz.func331.trans (congrArg some (by kernel_rfl))
  f212 := Tryz.func296.trans (congrArg some (by kernel_rfl))
  f240 := Tryz.func332.trans (congrArg some (by kernel_rfl))
  f241 := Tryz.func333.trans (congrArg some (by kernel_rfl))
  f263 := Tryz.func329.trans (congrArg some (by kernel_rfl))
  f264 := Tryz.func330.trans (congrArg some (by kernel_rfl))
  f276 := Tryz.func351.trans (congrArg some (by kernel_rfl))
  f277 := Tryz.func352.trans (congrArg some (by kernel_rfl))
  t0 := Tryz.underlying0
  a0 := Tryz.isAgg0
  z0 := Tryz.sizeOf0
  v0 := Tryz.zeroValue0
  t3 := Tryz.underlying3
  a3 := Tryz.isAgg3
  z3 := Tryz.sizeOf3
  v3 := Tryz.zeroValue3
  t4 := Tryz.underlying4
  a4 := Tryz.isAgg4
  z4 := Tryz.sizeOf4
  v4 := Tryz.zeroValue4
  t5 := Tryz.underlying5
  a5 := Tryz.isAgg5
  z5 := Tryz.sizeOf5
  v5 := Tryz.zeroValue5
  t9 := Tryz.underlying9
  a9 := Tryz.isAgg9
  z9 := Tryz.sizeOf9
  v9 := Tryz.zeroValue9
  t20 := Tryz.underlying20
  a20 := Tryz.isAgg20
  z20 := Tryz.sizeOf20
  v20 := Tryz.zeroValue20
  t37 := Tryz.underlying172
  a37 := Tryz.isAgg172
  z37 := Tryz.sizeOf172
  v37 := Tryz.zeroValue172
  t46 := Tryz.underlying171
  a46 := Tryz.isAgg171
  z46 := Tryz.sizeOf171
  v46 := Tryz.zeroValue171
  t51 := Tryz.underlying371
  a51 := Tryz.isAgg371
  z51 := Tryz.sizeOf371
  v51 := Tryz.zeroValue371
  t53 := Tryz.underlying44
  a53 := Tryz.isAgg44
  z53 := Tryz.sizeOf44
  v53 := Tryz.zeroValue44
  t70 := Tryz.underlying416
  a70 := Tryz.isAgg416
  z70 := Tryz.sizeOf416
  v70 := Tryz.zeroValue416
  t72 := Tryz.underlying418
  a72 := Tryz.isAgg418
  z72 := Tryz.sizeOf418
  v72 := Tryz.zeroValue418
  t75 := Tryz.underlying333
  a75 := Tryz.isAgg333
  z75 := Tryz.sizeOf333
  v75 := Tryz.zeroValue333
  t76 := Tryz.underlying419
  a76 := Tryz.isAgg419
  z76 := Tryz.sizeOf419
  v76 := Tryz.zeroValue419
  t109 := Tryz.underlying414
  a109 := Tryz.isAgg414
  z109 := Tryz.sizeOf414
  v109 := Tryz.zeroValue414
  t127 := Tryz.underlying453
  a127 := Tryz.isAgg453
  z127 := Tryz.sizeOf453
  v127 := Tryz.zeroValue453
  t146 := Tryz.underlying449
  a146 := Tryz.isAgg449
  z146 := Tryz.sizeOf449
  v146 := Tryz.zeroValue449
  t148 := Tryz.underlying451
  a148 := Tryz.isAgg451
  z148 := Tryz.sizeOf451
  v148 := Tryz.zeroValue451
  t164 := Tryz.underlying480
  a164 := Tryz.isAgg480
  z164 := Tryz.sizeOf480
  v164 := Tryz.zeroValue480 }
theorem shX_105 : Builder.Extra Tryz.prog shl105_ren := {
  sizeBuilder := by kernel_rfl
  liesBuilder := by kernel_rfl
  t5 := Tryz.underlying5
  a5 := Tryz.isAgg5
  z5 := Tryz.sizeOf5
  v5 := Tryz.zeroValue5
  infoByte := by kernel_rfl
  cellsByte := by kernel_rfl
  sizeByte := by kernel_rfl
  neB5 := by decide }
open Go.RowKit Go.Lib in
/-- **strings.Repeat: count ≥ 0, the result within one allocation: count copies of s.** (LAID: no walk: one application.) -/
theorem sh_strings_Repeat (s : ByteArray) (c : Nat) (w : World) (hc : c ≤ 9223372036854775807) (hlen : s.size * c ≤ 140737488355328) :
    Calls Tryz.prog 238 #[.string s, .int .i64 c] w fun e w' => e = .returned (.string ⟨(Lib.repeatL s.data.toList c).toArray⟩) ∧ Below w.heap.size w w' := Any.strings_Repeat shl105 shX_105 s c w hc hlen

end Go.Proofs.YtopbojifllnckaaGreatDoor
namespace Go.Proofs.YtopbojifllnckaaGreatDoor
theorem Step.below {P : Program} {E : Env} {σ : St} {w w' : World} (h : Rel P E σ w) (hb : Go.RowKit.Below w.heap.size w w') : Step P E σ w E σ w' := by
  refine Step.keep ⟨fun b o ho r hr => ?_, h.inj, fun b r hr => ⟨(h.rng b r hr).1, Nat.lt_of_lt_of_le (h.rng b r hr).2 hb.size⟩, h.live⟩ hb.os hb.tape hb.output hb.size hb.block
  obtain ⟨ob, h1, h2⟩ := h.obj b o ho r hr
  exact ⟨ob, (hb.block _ (h.rng b r hr).2).trans h1, h2⟩
noncomputable def spRepeat : CallF → List AV → St → Option (AV × St) := fun _ args σ => match args with
  | [.str l, .int .i64 (.ofNat c)] => bif Nat.ble c 9223372036854775807 && Nat.ble (l.length * c) 140737488355328 then some (.str (Lib.repeatL l c), σ) else none
  | _ => none
noncomputable def spByte : CallF → List AV → St → Option (AV × St) := fun _ args σ => match args with
  | [.str l, .int .u8 c] => some (.int .i64 (Lib.indexByte l c.toNat.toUInt8), σ)
  | _ => none
noncomputable def spCount : CallF → List AV → St → Option (AV × St) := fun _ args σ => match args with
  | [.str l, .str [c]] => some (.int .i64 (Lib.countByte l c), σ)
  | _ => none
noncomputable def spIndex : CallF → List AV → St → Option (AV × St) := fun _ args σ => match args with
  | [.str l, .str [c]] => some (.int .i64 (Lib.indexByte l c), σ)
  | _ => none
theorem spRepeat_sound (call : CallF) : OneSound Tryz.prog 238 (spRepeat call) := by
  intro args σ v σ' E w cargs h hR hc
  unfold spRepeat at h
  split at h <;> first | (cases h; done) | skip
  next l c =>
  cases hb : (Nat.ble c 9223372036854775807 && Nat.ble (l.length * c) 140737488355328) with
  | false => rw [hb] at h; cases h
  | true =>
    rw [hb] at h
    simp only [cond_true, Option.some.injEq, Prod.mk.injEq] at h
    obtain ⟨rfl, rfl⟩ := h
    rw [Bool.and_eq_true] at hb
    have h1 := Nat.le_of_ble_eq_true hb.1
    have h2 := Nat.le_of_ble_eq_true hb.2
    obtain ⟨c1, r1, rfl, k1, k2⟩ := concs_cons hc
    obtain ⟨c2, r2, rfl, k3, k4⟩ := concs_cons k2
    obtain rfl := concs_nil k4
    simp only [conc, Option.some.injEq] at k1 k3
    subst k1 k3
    refine ⟨⟨_, Tryz.func238, rfl⟩, ?_⟩
    refine (sh_strings_Repeat ⟨l.toArray⟩ c w h1 (by simpa [ByteArray.size] using h2)).mono ?_
    rintro e w' ⟨rfl, hbl⟩
    exact ⟨E, _, rfl, by simp [conc], Step.below hR hbl⟩
theorem spByte_sound (call : CallF) : OneSound Tryz.prog 357 (spByte call) := by
  intro args σ v σ' E w cargs h hR hc
  unfold spByte at h
  split at h <;> first | (cases h; done) | skip
  next l c =>
  simp only [Option.some.injEq, Prod.mk.injEq] at h
  obtain ⟨rfl, rfl⟩ := h
  obtain ⟨c1, r1, rfl, k1, k2⟩ := concs_cons hc
  obtain ⟨c2, r2, rfl, k3, k4⟩ := concs_cons k2
  obtain rfl := concs_nil k4
  simp only [conc, Option.some.injEq] at k1 k3
  subst k1 k3
  refine ⟨⟨_, Tryz.func357, rfl⟩, ?_⟩
  refine (sh_stringslite_IndexByte ⟨l.toArray⟩ c w).mono ?_
  rintro e w' ⟨rfl, rfl⟩
  exact ⟨E, _, rfl, by simp [conc], Step.refl hR⟩
theorem spCount_sound (call : CallF) : OneSound Tryz.prog 362 (spCount call) := by
  intro args σ v σ' E w cargs h hR hc
  unfold spCount at h
  split at h <;> first | (cases h; done) | skip
  next l c =>
  simp only [Option.some.injEq, Prod.mk.injEq] at h
  obtain ⟨rfl, rfl⟩ := h
  obtain ⟨c1, r1, rfl, k1, k2⟩ := concs_cons hc
  obtain ⟨c2, r2, rfl, k3, k4⟩ := concs_cons k2
  obtain rfl := concs_nil k4
  simp only [conc, Option.some.injEq] at k1 k3
  subst k1 k3
  refine ⟨⟨_, Tryz.func362, rfl⟩, ?_⟩
  refine (sh_strings_Count_one ⟨l.toArray⟩ c w).mono ?_
  rintro e w' ⟨rfl, rfl⟩
  exact ⟨E, _, rfl, by simp [conc], Step.refl hR⟩
theorem spIndex_sound (call : CallF) : OneSound Tryz.prog 363 (spIndex call) := by
  intro args σ v σ' E w cargs h hR hc
  unfold spIndex at h
  split at h <;> first | (cases h; done) | skip
  next l c =>
  simp only [Option.some.injEq, Prod.mk.injEq] at h
  obtain ⟨rfl, rfl⟩ := h
  obtain ⟨c1, r1, rfl, k1, k2⟩ := concs_cons hc
  obtain ⟨c2, r2, rfl, k3, k4⟩ := concs_cons k2
  obtain rfl := concs_nil k4
  simp only [conc, Option.some.injEq] at k1 k3
  subst k1 k3
  refine ⟨⟨_, Tryz.func363, rfl⟩, ?_⟩
  refine (sh_strings_Index_one ⟨l.toArray⟩ c w).mono ?_
  rintro e w' ⟨rfl, rfl⟩
  exact ⟨E, _, rfl, by simp [conc], Step.refl hR⟩
end Go.Proofs.YtopbojifllnckaaGreatDoor
namespace Go.Proofs.YtopbojifllnckaaGreatDoor
open Go.RowKit
/-- The deferred closure of Put: recover finds nothing. -/
theorem catch178 (c : Value) (w : World) : CallsD Tryz.prog 178 #[c] .returning w fun e u' w' => (∃ v, e = .returned v) ∧ u' = .returning ∧ w' = w := by
  refine callsD_of_wpS Tryz.func178 rfl fun c₀ cs hu => ?_
  apply wpS_seq
  apply wpS_region
  simp [wpOpsS, go_sem, recoverD, hu, Tryz.ntmps178, Exit.thenS]
  apply wpS_seq
  apply wpS_region
  simp [wpOpsS, go_sem, Exit.thenS]
  refine wpS_cond (t := false) (by simp [Act.eval, Array.replicate]) ?_
  simp only [Bool.false_eq_true, if_false]
  refine wpS_of_wp (wp_skip ?_)
  cases c₀
  simp_all [bodyPostS, results, Tryz.results178]
/-- The deferred closure of Get. -/
theorem catch243 (c d : Value) (w : World) : CallsD Tryz.prog 243 #[c, d] .returning w fun e u' w' => (∃ v, e = .returned v) ∧ u' = .returning ∧ w' = w := by
  refine callsD_of_wpS Tryz.func243 rfl fun c₀ cs hu => ?_
  apply wpS_seq
  apply wpS_region
  simp [wpOpsS, go_sem, recoverD, hu, Tryz.ntmps243, Exit.thenS]
  apply wpS_seq
  apply wpS_region
  simp [wpOpsS, go_sem, Exit.thenS]
  refine wpS_cond (t := false) (by simp [Act.eval, Array.replicate]) ?_
  simp only [Bool.false_eq_true, if_false]
  refine wpS_of_wp (wp_skip ?_)
  cases c₀
  simp_all [bodyPostS, results, Tryz.results243]
/-- Is it the pair of operations that makes the closure and defers its call? -/
noncomputable def defPair (g : Nat) : List Oper → Option (Nat × List Operand)
  | [⟨some d, .makeFunc (.func g') ⟨[]⟩ caps, _, _, _, none⟩, ⟨none, .defer ⟨.value (.tmp d'), ⟨[]⟩, _⟩, _, _, _, none⟩] => bif Nat.beq g' g && Nat.beq d' d then some (d, caps.toList) else none
  | _ => none
noncomputable def spDef (P : Program) (lf : Nat) (sta : Array Oper → Sta) (f g n : Nat) : CallF → List AV → St → Option (AV × St) := fun call args σ =>
  match P.funcs[f]? with
  | some fn => match fn.body with
    | some (.seq r0 (.seq (.region _ ops1 false) rest)) => match defPair g ops1.toList with
      | some (d, caps) => bif Nat.ble args.length fn.ntmps && (Nat.blt fn.ntmps 256 && (Nat.beq caps.length n && (Nat.blt d fn.ntmps && Tm.inT d))) then
          (match (cC P fn.ntmps lf sta r0).run call (trT args 0 Tm.e) σ with
          | some (.norm, tm1, σ1) => match avs tm1 caps with
            | some vs => match (cC P fn.ntmps lf sta rest).run call (Tm.put (.func g [] vs) tm1 d) σ1 with
              | some (.ret, tm3, σ3) => match resL P tm3 σ3 fn.results.toList with
                | some rs => some (resA rs, σ3)
                | none => none
              | _ => none
            | none => none
          | _ => none) else none
      | none => none
    | _ => none
  | none => none
theorem spDef_sound {P : Program} {lf : Nat} {sta : Array Oper → Sta} {f g n : Nat} (hsta : ∀ ops, (sta ops).ops = ops) (hmix : P.follows .mixedOrders = true) (hN : NamesOK P) (hg : ∃ fn, P.funcs[g]? = some fn ∧ fn.body.isSome = true)
    (hcatch : ∀ (cargs : List Value) (w : World), cargs.length = n → CallsD P g cargs.toArray .returning w fun e u' w' => (∃ v, e = .returned v) ∧ u' = .returning ∧ w' = w) {call : CallF} (hcall : CallSound P call) : OneSound P f (spDef P lf sta f g n call) := by
  intro args σ v σ' E w cargs h hR hc
  unfold spDef at h
  split at h <;> first | (cases h; done) | skip
  next fn hfn =>
  split at h <;> first | (cases h; done) | skip
  next r0 id1 ops1 rest hb =>
  split at h <;> first | (cases h; done) | skip
  next d caps hpair =>
  cases hchk : (Nat.ble args.length fn.ntmps && (Nat.blt fn.ntmps 256 && (Nat.beq caps.length n && (Nat.blt d fn.ntmps && Tm.inT d)))) with
  | false => rw [hchk] at h; cases h
  | true =>
    rw [hchk] at h
    simp only [Bool.and_eq_true] at hchk
    obtain ⟨q1, q2, q3, q4, q5⟩ := hchk
    have hle := Nat.le_of_ble_eq_true q1
    have hlt := blt_lt q2
    have hcn := beq_eq q3
    have hdn := blt_lt q4
    have hdb := Tm.inT_lt q5
    simp only [cond_true] at h
    split at h <;> first | (cases h; done) | skip
    next tm1 σ1 e1 =>
    split at h <;> first | (cases h; done) | skip
    next vs hvs =>
    split at h <;> first | (cases h; done) | skip
    next tm3 σ3 e3 =>
    split at h <;> first | (cases h; done) | skip
    next rs hrs =>
    simp only [Option.some.injEq, Prod.mk.injEq] at h
    obtain ⟨rfl, rfl⟩ := h
    have hdraw := drawA_sound hsta hmix hN call fn.ntmps hcall
    refine ⟨⟨fn, hfn, by simp [hb]⟩, calls_of_wp_defers hfn hb ?_⟩
    have hcl := concs_length hc
    have hsz : cargs.toArray.size = args.length := by simp [hcl]
    have ht0 : TmR E (trT args 0 Tm.e) (cargs.toArray ++ Array.replicate (fn.ntmps - cargs.toArray.size) undef) := fun t u hu => by
      rw [trT_get args 0 Tm.e t (by omega)] at hu
      by_cases hta : t < args.length
      · rw [if_pos (by omega), Nat.sub_zero] at hu
        obtain ⟨cc, h1, h2⟩ := concs_get hc hu
        exact ⟨cc, by rw [Array.getElem?_append_left (by simp [hcl]; exact hta)]; simpa using h1, h2⟩
      · rw [if_neg (by omega), Tm.get_e] at hu
        cases hu
    have hn0 : (cargs.toArray ++ Array.replicate (fn.ntmps - cargs.toArray.size) undef).size = fn.ntmps := by simp [hcl]; omega
    refine wp_seq (wp_mono (evC_sound hN hcall hdraw r0 (cC_ok r0 e1) hR ht0 hn0) ?_)
    rintro e a1 w1 ⟨rfl, k1, k2, E1, k3, k4⟩
    refine wp_seq (wp_region_list ?_)
    -- the two operations
    unfold defPair at hpair
    split at hpair <;> first | (cases hpair; done) | skip
    next d1 g1 caps1 ty1 pos1 af1 d2 ts2 ty2 pos2 af2 hops =>
    cases hq : (Nat.beq g1 g && Nat.beq d2 d1) with
    | false => rw [hq] at hpair; cases hpair
    | true =>
      rw [hq] at hpair
      rw [Bool.and_eq_true] at hq
      obtain rfl := beq_eq hq.1
      obtain rfl := beq_eq hq.2
      simp only [cond_true, Option.some.injEq, Prod.mk.injEq] at hpair
      obtain ⟨rfl, rfl⟩ := hpair
      rw [hops]
      have ec := avs_concs k4 hvs
      have hd1 : d2 < a1.tmps.size := by rw [k1]; exact hdn
      refine wpList_step fun K hK => ?_
      simp only [Region.wanted, if_true]
      unfold Oper.wp
      have r1 : (execOp a1.eval ⟨some d2, .makeFunc (.func g1) ⟨[]⟩ caps1, ty1, pos1, af1, none⟩).run P w1 = .ok (.value (.func (.func g1) #[] (caps1.map a1.eval))) w1 := by
        have e0 : (⟨[]⟩ : Array Operand).map a1.eval = #[] := by simp
        simp only [execOp, e0]
        rfl
      rw [r1, Oper.upon_value]
      refine hK _ _ ?_
      refine wpList_step fun K2 hK2 => ?_
      simp only [Region.wanted, if_true]
      unfold Oper.wp
      have ev : (a1.put (some d2) (.func (.func g1) #[] (caps1.map a1.eval))).eval (.tmp d2) = .func (.func g1) #[] (caps1.map a1.eval) := by
        simp [Act.eval, Act.put, hd1]
      have r2 : (execOp (a1.put (some d2) (.func (.func g1) #[] (caps1.map a1.eval))).eval ⟨none, .defer ⟨.value (.tmp d2), ⟨[]⟩, ts2⟩, ty2, pos2, af2, none⟩).run P w1 = .ok (.defer { target := .fn (.func g1) (caps1.map a1.eval), args := #[] }) w1 := by
        have e0 : (⟨[]⟩ : Array Operand).map (a1.put (some d2) (.func (.func g1) #[] (caps1.map a1.eval))).eval = #[] := by simp
        simp only [execOp, resolve, ev, Deferred.ofValue, e0]
        rfl
      rw [r2, Oper.upon_defer]
      refine hK2 _ _ ?_
      simp only [wpList]
      -- the rest
      have hcf : conc E1 (.func g1 [] vs) = some (.func (.func g1) #[] (caps1.map a1.eval)) := by
        simp only [conc, concs, ec, Option.bind_some, Option.map_some]
        congr 2
        apply Array.ext'
        simp
      have ht2 : TmR E1 (Tm.put (.func g1 [] vs) tm1 d2) (a1.put (some d2) (.func (.func g1) #[] (caps1.map a1.eval))).tmps := k4.put hdb (by rw [k1]; exact hdn) hcf
      refine wp_mono (evC_sound (a := { tmps := (a1.put (some d2) (.func (.func g1) #[] (caps1.map a1.eval))).tmps, defers := { target := .fn (.func g1) (caps1.map a1.eval), args := #[] } :: a1.defers }) hN hcall hdraw rest (cC_ok rest e3) k3.rel ht2 (by simp [Act.put, k1])) ?_
      rintro e a3 w3 ⟨rfl, m1, m2, E3, m3, m4⟩
      have hdef : a3.defers = [{ target := .fn (.func g1) (caps1.map a1.eval), args := #[] }] := by rw [m2, k2]
      show Leaves P fn a3.tmps (CallPost P E σ w (resA rs) σ3) a3.defers .returning w3
      rw [hdef]
      obtain ⟨gn, hgn, hgb⟩ := hg
      have hbn : gn.body.isNone = false := by cases hbb : gn.body <;> simp_all
      have hnm := hN _ _ hgn
      have hpr : (program).run P w3 = .ok P w3 := rfl
      refine leaves_cons (f := g1) (args := (caps1.toList.map a1.eval).toArray) (by simp) ?_ ?_
      · simp only [invoke, callFunc, Sem.run_bind, hpr, Result.andThen_ok, hgn, hnm, hbn, Bool.false_eq_true, if_false, Sem.run_pure]
        congr 2
        apply Array.ext'
        simp
      · refine (hcatch (caps1.toList.map a1.eval) w3 (by simpa using hcn)).mono ?_
        rintro e u' w4 ⟨⟨v4, rfl⟩, rfl, rfl⟩
        obtain ⟨cc, h6, h7⟩ := results_run m3.rel m4 hrs
        exact ⟨cc, h6, E3, cc, rfl, h7, k3.trans m3⟩
end Go.Proofs.YtopbojifllnckaaGreatDoor
namespace Go.Proofs.YtopbojifllnckaaGreatDoor
noncomputable def specTop : Specials := fun f =>
  bif Nat.beq f 324 then some spMore else bif Nat.beq f 238 then some spRepeat else bif Nat.beq f 357 then some spByte else bif Nat.beq f 362 then some spCount else bif Nat.beq f 363 then some spIndex else
  bif Nat.beq f 113 then some (spDef Tryz.prog 100000 staOf 113 178 1) else bif Nat.beq f 184 then some (spDef Tryz.prog 100000 staOf 184 243 2) else none
theorem mixTop : Tryz.prog.follows .mixedOrders = true := by kernel_rfl
theorem namesTop : NamesOK Tryz.prog := by
  have h : Tryz.prog.funcs.toList.all (fun fn => !(fn.name == "runtime.NumGoroutine")) = true := by kernel_rfl
  rw [List.all_eq_true] at h
  intro f fn hf
  have := h fn (by rw [← Array.getElem?_toList] at hf; exact List.mem_of_getElem? hf)
  simpa using this
theorem specTop_sound : SpecsSound Tryz.prog specTop := by
  refine specs_of fun call hcall f g hg => ?_
  unfold specTop at hg
  cases h1 : Nat.beq f 324 with
  | true =>
    rw [h1] at hg
    simp only [cond_true, Option.some.injEq] at hg
    subst hg
    rw [beq_eq h1]
    exact spMore_sound call
  | false =>
  rw [h1] at hg
  cases h2 : Nat.beq f 238 with
  | true =>
    rw [h2] at hg
    simp only [cond_true, cond_false, Option.some.injEq] at hg
    subst hg
    rw [beq_eq h2]
    exact spRepeat_sound call
  | false =>
  rw [h2] at hg
  cases h3 : Nat.beq f 357 with
  | true =>
    rw [h3] at hg
    simp only [cond_true, cond_false, Option.some.injEq] at hg
    subst hg
    rw [beq_eq h3]
    exact spByte_sound call
  | false =>
  rw [h3] at hg
  cases h4 : Nat.beq f 362 with
  | true =>
    rw [h4] at hg
    simp only [cond_true, cond_false, Option.some.injEq] at hg
    subst hg
    rw [beq_eq h4]
    exact spCount_sound call
  | false =>
  rw [h4] at hg
  cases h5 : Nat.beq f 363 with
  | true =>
    rw [h5] at hg
    simp only [cond_true, cond_false, Option.some.injEq] at hg
    subst hg
    rw [beq_eq h5]
    exact spIndex_sound call
  | false =>
  rw [h5] at hg
  cases h6 : Nat.beq f 113 with
  | true =>
    rw [h6] at hg
    simp only [cond_true, cond_false, Option.some.injEq] at hg
    subst hg
    rw [beq_eq h6]
    refine spDef_sound (fun _ => rfl) mixTop namesTop ⟨_, Tryz.func178, rfl⟩ (fun cargs w hn => ?_) hcall
    match cargs, hn with
    | [c], _ => exact catch178 c w
  | false =>
  rw [h6] at hg
  cases h7 : Nat.beq f 184 with
  | true =>
    rw [h7] at hg
    simp only [cond_true, cond_false, Option.some.injEq] at hg
    subst hg
    rw [beq_eq h7]
    refine spDef_sound (fun _ => rfl) mixTop namesTop ⟨_, Tryz.func243, rfl⟩ (fun cargs w hn => ?_) hcall
    match cargs, hn with
    | [c, d], _ => exact catch243 c d w
  | false =>
    rw [h7] at hg
    cases hg
/-- A call of this program whose run comes out. -/
theorem top_call (n : Nat) : CallSound Tryz.prog (fF Tryz.prog 100000 staOf specTop n) := fF_sound (fun _ => rfl) mixTop namesTop specTop_sound n
noncomputable def isTrue (r : Option (AV × St)) : Bool := match r with
  | some (.bool b, _) => b
  | _ => false
/-- From the run of a call without arguments: it gives back true, and nothing that stood is touched. -/
theorem call_true {f n : Nat} (h : isTrue (fF Tryz.prog 100000 staOf specTop n f [] ⟨.e, 0⟩) = true) (w : World) : Calls Tryz.prog f #[] w fun e w' => e = .returned (.bool true) ∧ Go.RowKit.Below w.heap.size w w' := by
  cases hr : fF Tryz.prog 100000 staOf specTop n f [] ⟨.e, 0⟩ with
  | none => rw [hr] at h; cases h
  | some r =>
    obtain ⟨v, σ'⟩ := r
    rw [hr] at h
    have hv : v = .bool true := by
      cases v <;> first | (cases h; done) | skip
      next b =>
      have : b = true := h
      rw [this]
    subst hv
    have hR : Rel Tryz.prog (fun _ => none) ⟨.e, 0⟩ w := ⟨fun b o hb => (by simp [Tr.get_e] at hb), fun b b' o o' r r' hb => (by simp [Tr.get_e] at hb), fun b r hb => (by cases hb), fun b o hb => (by simp [Tr.get_e] at hb)⟩
    have := (top_call n f [] ⟨.e, 0⟩ _ σ' (fun _ => none) w [] hr hR rfl).2
    refine this.mono ?_
    rintro e w' ⟨E', c, rfl, hc, hs⟩
    simp only [conc, Option.some.injEq] at hc
    subst hc
    refine ⟨rfl, hs.os, hs.tape, hs.output, hs.size, fun k hk => hs.frame k hk fun hrg => ?_⟩
    obtain ⟨b, o, r, hb, -⟩ := hrg
    simp [Tr.get_e] at hb
end Go.Proofs.YtopbojifllnckaaGreatDoor
