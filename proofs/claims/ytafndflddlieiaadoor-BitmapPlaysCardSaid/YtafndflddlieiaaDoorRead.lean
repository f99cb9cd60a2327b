/- Read. -/
import Derived.Test.YtafndflddlieiaaDoorText
import Derived.ChangeKeysEq
import Derived.Laws.StructEq
namespace Go.Proofs.YtafndflddlieiaaDoor
open Go.RowKit
attribute [local irreducible] wpQuiet
attribute [local go_sem high] run_mxI run_mnI
attribute [local go_sem] U_or

/-! ### two rows of words are the same -/
def eqW (V W : Nat → BitVec 64) : Bool := (List.range 64).all fun j => decide (V j = W j)
theorem run_items (V W : Nat → BitVec 64) (w : World) : ∀ is : List Nat, (∀ j ∈ is, j < 64) → (Op.eqItems 9999 62 1 (wordsA V) (wordsA W) is).run Tryd.prog w = .ok (is.all fun j => decide (V j = W j)) w := by
  intro is
  induction is with
  | nil => intro _; simp [Op.eqItems]
  | cons j is ih =>
    intro h
    have hj := h j (by simp)
    have h1 := wordsA_get V hj
    have h2 := wordsA_get W hj
    have hp : ∀ (X : Nat → BitVec 64), (part 62 (wordsA X) (j * 1)).run Tryd.prog w = .ok (.int .u64 (U (X j))) w := fun X => by
      have := wordsA_get X hj
      simp [part, isAgg, run_underlying Tryd.underlying62, this]
    simp only [Op.eqItems, Sem.run_bind, hp, Result.andThen_ok, run_equalIn_int w 9998 62 .u64 .u64 (U (V j)) (U (W j)) Tryd.underlying62]
    by_cases he : V j = W j
    · have : (U (V j) == U (W j)) = true := by rw [he]; simp
      rw [this]
      simp only [Bool.not_true, Bool.false_eq_true, if_false, List.all_cons, decide_eq_true he, Bool.true_and]
      exact ih fun k hk => h k (by simp [hk])
    · have : (U (V j) == U (W j)) = false := by simpa using fun e => he (U_inj.1 e)
      simp [this, he]
theorem cells62 : Tryd.prog.cellsOf 62 = 1 := by kernel_rfl
theorem run_neqW (V W : Nat → BitVec 64) (w : World) : (binOp .neq 63 (.agg (wordsA V)) (.agg (wordsA W))).run Tryd.prog w = .ok (.bool (!eqW V W)) w := by
  have hi : ∃ i, Tryd.prog.info? 62 = some i := by
    have : (Tryd.prog.info? 62).isSome = true := by kernel_rfl
    exact Option.isSome_iff_exists.1 this
  obtain ⟨i, hi⟩ := hi
  rw [run_neq_struct, run_equalIn_array (P := Tryd.prog) w 9999 (t := 63) (e := 62) (n := 64) (wordsA V) (wordsA W) Tryd.underlying63 hi, cells62, run_items V W w _ (fun j hj => by simpa using hj)]
  rfl

/-! ### words out of bytes -/
def updW (W : Nat → BitVec 64) (j0 : Nat) (v : BitVec 64) : Nat → BitVec 64 := fun j => if j = j0 then v else W j
theorem cellsW_upd (n : Nat) (W : Nat → BitVec 64) (j0 : Nat) (v : BitVec 64) : (cellsW n W).setIfInBounds (1 + j0) (.int .u64 (U v)) = cellsW n (updW W j0 v) := by
  apply Array.ext
  · simp [cellsW]
  · intro i h1 h2
    rw [Array.getElem_setIfInBounds (by simp [cellsW] at h2 ⊢; omega)]
    simp only [cellsW, List.getElem_toArray]
    cases i with
    | zero =>
      rw [if_neg (by omega)]
      rfl
    | succ i =>
      simp only [List.getElem_cons_succ, List.getElem_map, List.getElem_range]
      by_cases hij : 1 + j0 = i + 1
      · rw [if_pos hij]
        congr 2
        unfold updW
        rw [if_pos (by omega)]
      · rw [if_neg hij]
        congr 2
        unfold updW
        rw [if_neg (by omega)]
def byteW (b : UInt8) (r : Nat) : BitVec 64 := BitVec.ofNat 64 b.toNat <<< r
theorem U_byteW (b : UInt8) (r : Nat) : IntKind.u64.wrap (IntKind.u64.wrap (b.toNat : Int) * 2 ^ r) = U (byteW b r) := by
  have hb := b.toNat_lt
  unfold U byteW
  rw [IntKind.wrap_u64, IntKind.wrap_u64, BitVec.toNat_shiftLeft, BitVec.toNat_ofNat, Nat.shiftLeft_eq]
  have e1 : ((b.toNat : Int) % 18446744073709551616) = ((b.toNat : Nat) : Int) := by omega
  have e2 : b.toNat % 2 ^ 64 = b.toNat := Nat.mod_eq_of_lt (by omega)
  rw [e1, e2, show ((2 : Int) ^ r) = ((2 ^ r : Nat) : Int) by push_cast; rfl, ← Int.natCast_mul]
  rfl
def orW (W : Nat → BitVec 64) (k : Nat) (b : UInt8) : Nat → BitVec 64 := updW W (k / 8) (W (k / 8) ||| byteW b (8 * (k % 8)))
def fillW (s : ByteArray) : Nat → Nat → BitVec 64
  | 0 => fun _ => 0#64
  | k + 1 => orW (fillW s k) k (s.data.toList.getD k 0)
theorem fillW_succ (s : ByteArray) {k : Nat} (hk : k < s.size) : fillW s (k + 1) = orW (fillW s k) k s[k] := by
  simp only [fillW]
  congr 1
  have : k < s.data.toList.length := by simpa using hk
  rw [List.getD_eq_getElem?_getD, List.getElem?_eq_getElem this]
  rfl

section
variable {b n : Nat} {W : Nat → BitVec 64} {w : World}
theorem read_arg (s : ByteArray) {n : Int} (hn : n < 0 ∨ 4096 < n) (w : World) : Calls Tryd.prog 28 #[.string s, .int .i64 n] w fun e w' => e = .returned (.tuple #[.pointer none, .int .i64 1]) ∧ w = w' := by
  rcases hn with h | h
  · go_enter Tryd.func28, Tryd.ntmps28
    go_wp2_with fail
    go_ret2
    exact ⟨rfl, rfl⟩
  · have h0 : ¬ n < 0 := by omega
    go_enter Tryd.func28, Tryd.ntmps28
    go_wp2_with fail
    go_ret2
    exact ⟨rfl, rfl⟩
theorem read_size (s : ByteArray) {n : Nat} (hn : n ≤ 4096) (hne : s.size ≠ (n + 7) / 8) (w : World) : Calls Tryd.prog 28 #[.string s, .int .i64 n] w fun e w' => e = .returned (.tuple #[.pointer none, .int .i64 2]) ∧ w = w' := by
  have hd : ((s.size : Int) != ((n : Int) + 7) / 8) = true := by
    have : (s.size : Int) ≠ ((n : Int) + 7) / 8 := by omega
    simpa using this
  clear hne
  go_enter Tryd.func28, Tryd.ntmps28
  go_wp2_with fail
  go_ret2
  exact ⟨rfl, rfl⟩
theorem quiet_words {o : Oper} {a : Act} {w : World} {b n : Nat} {W : Nat → BitVec 64} {next : Act → Prop} (x : Operand) (ho : o.op = .load 63 x) (hx : a.eval x = .pointer (some ⟨b, 1, none⟩)) (hm : MapIs w b n W) (h : next (a.put o.dst (.agg (wordsA W)))) :
    o.quiet Tryd.prog a (fun w' => ∃ n, w' = w.drewN n) next := by
  refine ⟨.agg (wordsA W), fun w' hw => ?_, h⟩
  obtain ⟨k, rfl⟩ := hw
  unfold Oper.quietAt execOp
  simp only [ho, hx, Instr.loadAt, Instr.sureAddr, Sem.run_bind, Sem.run_pure, Result.andThen_ok, run_words (w := w.drewN k) (Blk.drewN hm k)]
  exact ⟨rfl, rfl⟩
theorem quiet_neqW {o : Oper} {a : Act} {w : World} {V W : Nat → BitVec 64} {next : Act → Prop} (x y : Operand) (ty : TypeId) (ho : o.op = .binOp .neq 63 x y ty) (hx : a.eval x = .agg (wordsA V)) (hy : a.eval y = .agg (wordsA W)) (h : next (a.put o.dst (.bool (!eqW V W)))) :
    o.quiet Tryd.prog a (fun w' => ∃ n, w' = w.drewN n) next := by
  refine ⟨.bool (!eqW V W), fun w' _ => ?_, h⟩
  unfold Oper.quietAt execOp
  simp only [ho, hx, hy, Sem.run_bind, Sem.run_pure, run_neqW]
  exact ⟨rfl, rfl⟩
theorem size65 : (Tryd.prog.info? 65).map (·.size) = some 65 := by kernel_rfl
theorem Blk.setRow {w : World} {g : Nat} {t : TypeId} {old cs : Array Value} (h : Blk w g t old) : Blk (w.setRow g cs) g t cs := by
  unfold Blk at h ⊢
  simp [World.setRow, Array.getElem?_modify, h]
theorem heap_setRow (w : World) (g : Nat) (cs : Array Value) (k : Nat) (hk : k ≠ g) : (w.setRow g cs).heap[k]? = w.heap[k]? := by
  simp only [World.setRow, Array.getElem?_modify]
  rw [if_neg (by omega)]
theorem cellsW_one (n : Nat) (W : Nat → BitVec 64) : (cellsW n W).all (·.oneCell') = true := by
  rw [Array.all_eq_true_iff_forall_mem]
  intro v hv
  simp only [cellsW, List.mem_toArray, List.mem_cons, List.mem_map] at hv
  rcases hv with rfl | ⟨j, _, rfl⟩ <;> rfl
def ReadPost (s : ByteArray) (n : Nat) (w : World) (e : Ending) (w' : World) : Prop :=
  (eqW (rowW (fillW s s.size) n false (8 * s.size - n)) (fillW s s.size) = true ∧ e = .returned (.tuple #[.pointer (some ⟨w.heap.size, 0, none⟩), .int .i64 0]) ∧ MapIs w' w.heap.size n (fillW s s.size) ∧ Below w.heap.size w w') ∨
  (eqW (rowW (fillW s s.size) n false (8 * s.size - n)) (fillW s s.size) = false ∧ e = .returned (.tuple #[.pointer none, .int .i64 3]) ∧ Below w.heap.size w w')
set_option maxRecDepth 100000 in
set_option maxHeartbeats 1000000 in
theorem read_any (s : ByteArray) {n : Nat} (hn : n ≤ 4096) (hs : s.size = (n + 7) / 8) (w : World) : Calls Tryd.prog 28 #[.string s, .int .i64 n] w (ReadPost s n w) := by
  have hd : ((s.size : Int) != ((n : Int) + 7) / 8) = false := by
    have : (s.size : Int) = ((n : Int) + 7) / 8 := by omega
    simpa using this
  have hm : mnI (mxI (n : Int) 0) 4096 = (n : Int) := by unfold mnI mxI; split <;> split <;> omega
  obtain ⟨m, hmm⟩ : ∃ m, m = s.size := ⟨_, rfl⟩
  have hm512 : m ≤ 512 := by omega
  have HS := hid hs
  have HNew := hid (new_any (w := w) hm)
  clear hs hm
  go_enter Tryd.func28, Tryd.ntmps28
  go_wp2_with fail
  refine HNew.out.mono ?_
  rintro e w1 ⟨rfl, hM1, hB1⟩
  have HM1 := hid hM1
  have HB1 := hid hB1
  clear hM1 hB1
  go_wp2_with fail
  go_loopw [28] (fun i wr => ∃ k : Nat, k ≤ s.size ∧ i = .int .i64 k ∧ Hid (MapIs wr w.heap.size n (fillW s k) ∧ Below w.heap.size w wr)) (fun i _ => s.size - (intOf i).toNat)
  case atStart => exact ⟨0, Nat.zero_le _, rfl, HM1.out, HB1.out⟩
  case round =>
    obtain ⟨k, hk, rfl, hI⟩ := hrel
    by_cases hkm : k < s.size
    · have e1 := MapIs.e1 hI.out.1 (j := k / 8) (by omega)
      have f1 := Blk.frozen hI.out.1 (1 + k / 8)
      have HV := hid (U_byteW s[k] (8 * (k % 8)))
      have HF := hid (fillW_succ s hkm)
      go_wp2_with fail
      go_region
      go_wp2_with fail
      go_roundw
      case rel =>
        refine ⟨k + 1, by omega, by go_num, hid ⟨?_, (hI.out.2.setCell (p := ⟨w.heap.size, 1 + k / 8, none⟩) (Nat.le_refl _) _).drew⟩⟩
        rw [HV.out, U_or, HF.out]
        have := Blk.set_ hI.out.1 (1 + k / 8) (.int .u64 (U (fillW s k (k / 8) ||| byteW s[k] (8 * (k % 8)))))
        rw [cellsW_upd] at this
        exact this
      case measure => simp [intOf]; omega
    · obtain rfl : k = s.size := by omega
      have hM := hI.out.1
      obtain ⟨V, hV⟩ : ∃ V, V = fillW s s.size := ⟨_, rfl⟩
      rw [← hV] at hM
      obtain ⟨cs, hcs⟩ : ∃ cs, cs = cellsW n V := ⟨_, rfl⟩
      have hM' := hM
      unfold MapIs at hM'
      rw [← hcs] at hM'
      have h65 : (Tryd.prog.info? 65).map (·.size) = some cs.size := by
        have : cs.size = 65 := by rw [hcs]; simp [cellsW]
        rw [this]
        exact size65
      have HVV := hid hV
      have HB := hid hM'
      have HM := hid hM
      have HCS := hid hcs
      have H65 := hid h65
      clear hM hM' hcs h65 hV
      have hz := zero65
      have hsz : zeroW.size = cs.size := by rw [HCS.out]; simp [zeroW, cellsW]
      have h1 := hid (show cs.all (·.oneCell') = true by rw [HCS.out]; exact cellsW_one n V)
      have HSZ := hid hsz
      clear hsz
      go_wp2_with (first | (refine wpList_load_row rfl 65 (.tmp 52) rfl w.heap.size rfl 65 cs (0, 0) _ HB.out Tryd.underlying65 rfl H65.out ?_) | (refine wpList_store_row rfl 65 (.tmp 8) (.tmp 53) rfl wr.heap.size cs rfl rfl 65 zeroW (heap_alloc_new wr _) H65.out HSZ.out h1.out ?_))
      obtain ⟨wo, rfl⟩ : ∃ wo : World, wo = wr := ⟨_, rfl⟩
      have hlt0 : w.heap.size < wo.heap.size := HB.out.lt
      obtain ⟨w2, hw2⟩ : ∃ w2, w2 = (wo.alloc (.cells zeroW 65)).setRow wo.heap.size cs := ⟨_, rfl⟩
      have hc2 : Blk w2 wo.heap.size 65 cs := by rw [hw2]; exact Blk.setRow (Blk.new wo 65 zeroW)
      have hb2 : Below wo.heap.size wo w2 := by
        rw [hw2]
        exact ((Below.refl _ _).alloc (Nat.le_refl _) _).trans ⟨rfl, rfl, rfl, by simp, fun k hk => heap_setRow _ _ _ _ (by omega)⟩
      have hm2 : MapIs w2 w.heap.size n V := Blk.below HM.out hb2 hlt0
      rw [HCS.out] at hc2
      have HC2 := hid (show MapIs w2 wo.heap.size n V from hc2)
      have HM2 := hid hm2
      have HB2 := hid (hI.out.2.trans (hb2.mono (by omega)))
      rw [← hw2]
      have hpos : n ≤ 8 * s.size ∧ 8 * s.size ≤ 4096 := by have := HS.out; omega
      clear hw2 hc2 hb2 hm2 hz
      go_loopw [9] (fun i wr => ∃ k : Nat, k ≤ 8 * s.size - n ∧ i = .int .i64 ((n : Int) + (k : Int)) ∧ Hid (MapIs wr wo.heap.size n (rowW V n false k) ∧ MapIs wr w.heap.size n V ∧ Below w.heap.size w wr)) (fun i _ => 8 * s.size - (intOf i).toNat)
      case atStart => exact ⟨0, Nat.zero_le _, by simp, HC2.out, HM2.out, HB2.out⟩
      case round =>
        obtain ⟨k, hk, rfl, hJ⟩ := hrel
        by_cases hkm : k < 8 * s.size - n
        · have hP := hid (put_any (hid hJ.out.1) (n + k) (by omega) false)
          rw [Int.natCast_add] at hP
          go_wp2_with fail
          refine hP.out.mono ?_
          rintro e w4 ⟨rfl, hm4, ho4⟩
          have hb4 : Below w.heap.size wr w4 := ho4.below (by have := hJ.out.2.1.lt; omega) (fun k hk e => by omega)
          have HM4 := hid hm4
          have HN4 := hid (MapIs.only hJ.out.2.1 ho4 (by omega))
          have HB4 := hid (hJ.out.2.2.trans hb4)
          clear hm4 ho4 hb4
          go_wp2_with fail
          go_roundw
          case rel => exact ⟨k + 1, by omega, (by first | rfl | (congr 1; omega)), hid ⟨HM4.out, HN4.out, HB4.out⟩⟩
          case measure => simp [intOf]; omega
        · obtain rfl : k = 8 * s.size - n := by omega
          go_wp2_with fail
          refine wp_region_quiet_lit (by kernel_rfl) (by kernel_rfl) ?_
          quiet_step (fail)
          refine wpQuiet_step (fun K hK => ?_)
          rw [if_pos (show Region.wanted _ _ = true from rfl)]
          refine quiet_words (.tmp 64) rfl rfl hJ.out.1 ?_
          refine hK _ ?_
          clear hK K
          quiet_step (fail)
          quiet_step (fail)
          quiet_step (fail)
          refine wpQuiet_step (fun K hK => ?_)
          rw [if_pos (show Region.wanted _ _ = true from rfl)]
          refine quiet_words (.tmp 68) rfl rfl hJ.out.2.1 ?_
          refine hK _ ?_
          clear hK K
          refine wpQuiet_step (fun K hK => ?_)
          rw [if_pos (show Region.wanted _ _ = true from rfl)]
          refine quiet_neqW (.tmp 65) (.tmp 69) 63 rfl rfl rfl ?_
          refine hK _ ?_
          clear hK K
          refine wpQuiet_nil ?_
          intro w5 hw5
          obtain ⟨nq, rfl⟩ := hw5
          obtain ⟨r, hr⟩ : ∃ r, r = eqW (rowW V n false (8 * s.size - n)) V := ⟨_, rfl⟩
          rw [← hr]
          have HR := hid hr
          clear hr
          have HJ := hid hJ.out.2.1
          have HJB := hid (below_drewN hJ.out.2.2 nq)
          cases r with
          | true =>
            go_wp2_with fail
            go_ret2
            exact .inl ⟨by rw [← HVV.out]; exact HR.out.symm, rfl, by rw [← HVV.out]; exact Blk.drewN HJ.out nq, HJB.out⟩
          | false =>
            go_wp2_with fail
            go_ret2
            exact .inr ⟨by rw [← HVV.out]; exact HR.out.symm, rfl, HJB.out⟩
end
end Go.Proofs.YtafndflddlieiaaDoor
