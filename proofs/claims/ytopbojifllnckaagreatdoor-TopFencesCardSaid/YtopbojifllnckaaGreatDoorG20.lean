/- append onto a row that is the call's own, or that is full (its room is its length). codec.number: a number's bytes behind a row. The reference's Int: a number's bytes as a string. The reference's Encode: a command's bytes. codec.Writer: what is laid. -/
import Derived.Laws.BitsAllLaws
import Derived.BigQuiet
import Derived.Lib.QuietBelow
import Derived.StillTailTactics
import Derived.Test.YtopbojifllnckaaGreatDoorG19
namespace Go.Proofs.YtopbojifllnckaaGreatDoor
open Go.RowKit

/-- Bytes as cells. -/
def byc (l : List UInt8) : List Value := l.map fun b => Value.int .u8 b.toNat
theorem byc_length (l : List UInt8) : (byc l).length = l.length := by simp [byc]
theorem byc_append (l m : List UInt8) : byc (l ++ m) = byc l ++ byc m := by simp [byc]
theorem byc_one (l : List UInt8) : ∀ u ∈ byc l, u.oneCell' = true := fun u hu => by
  obtain ⟨b, _, rfl⟩ := List.mem_map.1 hu
  rfl

def RowF (w : World) (base : Nat) (e : TypeId) (size : Nat) (v : Value) (n : Nat) (xs : List Value) : Prop :=
  w.ownsRow base e size v n xs ∨ ∃ A, v = .slice (some A) n n ∧ xs.length = n * size ∧ ∀ j u, xs[j]? = some u → w.cell? (A.add j) = some u

theorem below_grown {w w' : World} {base e size n : Nat} {v : Value} {xs : List Value} (h : w.ownsRow base e size v n xs) (hg : w.grownBy w' v.ownBlock) (hb : base ≤ w.heap.size) : Below base w w' :=
  ⟨hg.os, hg.tape, hg.output, hg.size, fun k hk => hg.block k (by omega) fun hq => by
    have := own_ge h k hq.symm
    omega⟩
section
variable {P : Program} (w : World)
theorem run_appF (base : Nat) (t ty e : TypeId) (z : Value) (size bytes : Nat) (ht : P.underlying t = some (.slice e)) (hinfo : (P.info? e).map (fun i => (i.zero, i.size, i.bytes)) = some (some z, size, bytes)) (hz : z.cells.size = size) (hs0 : 0 < size) (hb0 : 0 < bytes)
    (v : Value) (n : Nat) (xs : List Value) (hown : RowF w base e size v n xs) (B : Nat) (A : Option Addr) (c m : Nat) (ys : List Value) (hm : ys.length = m * size) (hm0 : 0 < m) (hr : Holds w B A ys) (h1 : ∀ u ∈ ys, u.oneCell' = true)
    (hlen : (n + m) * bytes ≤ 140737488355328) (hbase : base ≤ w.heap.size) :
    ∃ v' w', (Builtin.append_ #[t, t] ty #[v, .slice A m c]).run P w = .ok v' w' ∧ w'.ownsRow base e size v' (n + m) (xs ++ ys) ∧ Below base w w' := by
  rcases hown with hown | ⟨ad, rfl, hxl, hcs⟩
  · obtain ⟨v', w', h2, h3, h4, _⟩ := run_appS w base t ty e z size bytes ht hinfo hz hs0 hb0 v n xs hown B A c m ys hm hr h1 hlen hbase
    exact ⟨v', w', h2, h3, below_grown hown h4 hbase⟩
  · obtain ⟨i, hi, hzz⟩ := Option.map_eq_some_iff.1 hinfo
    simp only [Prod.mk.injEq] at hzz
    obtain ⟨hz0, hz1, hz2⟩ := hzz
    have hle : n + m ≤ 140737488355328 := Nat.le_trans (Nat.le_mul_of_pos_right _ hb0) hlen
    have hpos : 0 < ys.length := by rw [hm]; exact Nat.mul_pos hm0 hs0
    obtain ⟨ad2, rfl, _, hys⟩ := hr hpos
    have hrun := run_append_grow (P := P) w t ty e i z ht hi hz0 ad n n xs (by rw [hz1]; exact hxl) hcs ad2 m c ys (by rw [hz1]; exact hm) hys (by omega) (by omega) (growslice_fits (by omega) (by rw [hz2]; exact hlen))
    refine ⟨_, _, hrun, ⟨by rw [List.length_append, hxl, hm, Nat.add_mul], .inr ⟨w.heap.size, _, _, rfl, hbase, heap_alloc_new w.drew _, grownCap_ge w (n + m) n e, grownCap_le_maxLen w (n + m) n e (by simp only [maxLen]; omega), ?_, ?_⟩⟩, ⟨rfl, rfl, rfl, by simp, fun k hk => heap_alloc_old w.drew _ (Nat.lt_of_lt_of_le hk hbase)⟩⟩
    · have hge := grownCap_ge w (n + m) n e
      simp only [Array.size_append, List.size_toArray, size_zeroCells, hz, hxl, hm, ← Nat.add_mul]
      congr 1
      omega
    · have hl : (xs ++ ys).length = (n + m) * size := by rw [List.length_append, hxl, hm, Nat.add_mul]
      simp only [Array.toList_append, List.append_assoc]
      rw [← List.append_assoc, ← hl]
      exact List.take_left
variable {o : Oper} {a : Act} {K : Act → World → Prop} {Q : Exit → Act → World → Prop}
theorem wp_appF (s x : Operand) (t e : TypeId) (z : Value) (size bytes : Nat) (ho : o.op = .call { callee := .builtin .append, args := #[s, x], argTypes := #[t, t] })
    (ht : P.underlying t = some (.slice e)) (hinfo : (P.info? e).map (fun i => (i.zero, i.size, i.bytes)) = some (some z, size, bytes)) (hz : z.cells.size = size) (hs0 : 0 < size) (hb0 : 0 < bytes)
    (base : Nat) (v : Value) (n : Nat) (xs : List Value) (hs : a.eval s = v) (hown : RowF w base e size v n xs) (B : Nat) (A : Option Addr) (c m : Nat) (ys : List Value) (hx : a.eval x = .slice A m c) (hm : ys.length = m * size) (hm0 : 0 < m) (hr : Holds w B A ys)
    (h1 : ∀ u ∈ ys, u.oneCell' = true) (hlen : (n + m) * bytes ≤ 140737488355328) (hbase : base ≤ w.heap.size)
    (h : ∀ v' w', w'.ownsRow base e size v' (n + m) (xs ++ ys) → Below base w w' → K (a.put o.dst v') w') : o.wp P a w K Q := by
  obtain ⟨v', w', hrun, h2, h3⟩ := run_appF (P := P) w base t o.type e z size bytes ht hinfo hz hs0 hb0 v n xs hown B A c m ys hm hm0 hr h1 hlen hbase
  unfold Oper.wp execOp
  simp only [ho, resolve, invoke, builtin, Sem.run_bind, Sem.run_pure, Result.andThen_ok, List.map_toArray, List.map_cons, List.map_nil, hs, hx, hrun]
  exact h v' w' h2 h3
theorem wpList_appF {ops : Array Oper} {rest : List Oper} (hgd : o.guard = none) (s x : Operand) (t e : TypeId) (z : Value) (size bytes : Nat) (ho : o.op = .call { callee := .builtin .append, args := #[s, x], argTypes := #[t, t] })
    (ht : P.underlying t = some (.slice e)) (hinfo : (P.info? e).map (fun i => (i.zero, i.size, i.bytes)) = some (some z, size, bytes)) (hz : z.cells.size = size) (hs0 : 0 < size) (hb0 : 0 < bytes)
    (base : Nat) (v : Value) (n : Nat) (xs : List Value) (hs : a.eval s = v) (hown : RowF w base e size v n xs) (B : Nat) (A : Option Addr) (c m : Nat) (ys : List Value) (hx : a.eval x = .slice A m c) (hm : ys.length = m * size) (hm0 : 0 < m) (hr : Holds w B A ys)
    (h1 : ∀ u ∈ ys, u.oneCell' = true) (hlen : (n + m) * bytes ≤ 140737488355328) (hbase : base ≤ w.heap.size)
    (h : ∀ v' w', w'.ownsRow base e size v' (n + m) (xs ++ ys) → Below base w w' → wpList P ops Q rest (a.put o.dst v') w') : wpList P ops Q (o :: rest) a w :=
  wpList_plain hgd fun _ hK => wp_appF w s x t e z size bytes ho ht hinfo hz hs0 hb0 base v n xs hs hown B A c m ys hx hm hm0 hr h1 hlen hbase fun v' w' h2 h3 => hK _ _ (h v' w' h2 h3)
/-- One element more, out of a row that was just built. -/
theorem wpList_app1 {ops : Array Oper} {rest : List Oper} (hgd : o.guard = none) (s x : Operand) (t e : TypeId) (z : Value) (bytes : Nat) (ho : o.op = .call { callee := .builtin .append, args := #[s, x], argTypes := #[t, t] })
    (ht : P.underlying t = some (.slice e)) (hinfo : (P.info? e).map (fun i => (i.zero, i.size, i.bytes)) = some (some z, 1, bytes)) (hz : z.cells.size = 1) (hb0 : 0 < bytes)
    (base : Nat) (v : Value) (n : Nat) (xs : List Value) (hs : a.eval s = v) (hown : RowF w base e 1 v n xs) (u : Value) (hx : a.eval x = .slice (some ⟨w.heap.size, 0, none⟩) 1 1)
    (h1 : u.oneCell' = true) (hlen : (n + 1) * bytes ≤ 140737488355328) (hbase : base ≤ w.heap.size)
    (h : ∀ v' w', w'.ownsRow base e 1 v' (n + 1) (xs ++ [u]) → Below base w w' → wpList P ops Q rest (a.put o.dst v') w') : wpList P ops Q (o :: rest) a (w.alloc (.cells #[u] e)) := by
  refine wpList_appF (w.alloc (.cells #[u] e)) hgd s x t e z 1 bytes ho ht hinfo hz (by omega) hb0 base v n xs hs ?_ (w.heap.size + 1) (some ⟨w.heap.size, 0, none⟩) 1 1 [u] hx rfl (by omega) ?_ (by simpa using h1) hlen (by simp; omega) fun v' w' h2 h3 => h v' w' h2 ?_
  · rcases hown with h | ⟨A, h2, h3, h4⟩
    · exact .inl (h.alloc _)
    · refine .inr ⟨A, h2, h3, fun j y hy => ?_⟩
      have := h4 j y hy
      exact (World.cell?_of_block (w := w) (Below.heap_alloc w _ _ (World.block_lt_of_cell? w _ this))).trans this
  · have := Holds.of_blk (B := w.heap.size + 1) (Blk.new w e #[u]) 0 1 (by omega)
    simpa using this
  · exact ((Below.refl _ _).alloc hbase _).trans h3
end
end Go.Proofs.YtopbojifllnckaaGreatDoor
namespace Go.Proofs.YtopbojifllnckaaGreatDoor
open Go.RowKit
attribute [local irreducible] wpQuiet
theorem vi_len : ∀ (m u : Nat), u < 128 ^ (m + 1) → (vi u).length ≤ m + 1 := by
  intro m
  induction m with
  | zero => intro u h; rw [vi_lt (by simpa using h)]; simp
  | succ m ih =>
    intro u h
    by_cases hu : u < 128
    · rw [vi_lt hu]; simp
    · rw [vi_ge hu, List.length_cons]
      have := ih (u / 128) (by rw [Nat.div_lt_iff_lt_mul (by omega)]; rw [Nat.pow_succ] at h; exact h)
      omega
theorem vi_ten {u : Nat} (h : u < 18446744073709551616) : (vi u).length ≤ 10 := vi_len 9 u (by
  have e : (128 : Nat) ^ 10 = 1180591620717411303424 := by rfl
  show u < 128 ^ 10
  rw [e]
  omega)
theorem u64_wrap (x : Int) : IntKind.u64.wrap x = x % 18446744073709551616 := rfl
theorem xor_zz (k : Int) (h1 : -9223372036854775808 ≤ k) (h2 : k < 9223372036854775808) :
    bits .xor .u64 (IntKind.u64.wrap (IntKind.u64.wrap k * 2)) (IntKind.u64.wrap (k / 9223372036854775808)) = ((zz k : Nat) : Int) := by
  show IntKind.u64.wrap (((BitVec.ofInt 64 _ ^^^ BitVec.ofInt 64 _).toNat : Nat) : Int) = _
  have hw : ∀ n : Nat, n < 18446744073709551616 → IntKind.u64.wrap (n : Int) = n := fun n hn => by rw [u64_wrap]; omega
  rcases Int.lt_or_le k 0 with h | h
  · have e1 : k / 9223372036854775808 = -1 := by omega
    have e2 : IntKind.u64.wrap (-1) = 18446744073709551615 := rfl
    have e3 : IntKind.u64.wrap (IntKind.u64.wrap k * 2) = 2 * k + 18446744073709551616 := by rw [u64_wrap, u64_wrap]; omega
    rw [e1, e2, e3]
    have e4 : BitVec.ofInt 64 18446744073709551615 = BitVec.allOnes 64 := rfl
    rw [e4, BitVec.xor_allOnes, BitVec.toNat_not]
    have e5 : (BitVec.ofInt 64 (2 * k + 18446744073709551616)).toNat = (2 * k + 18446744073709551616).toNat := by
      rw [BitVec.toNat_ofInt]
      congr 1
      exact Int.emod_eq_of_lt (by omega) (by omega)
    rw [e5]
    have e6 : zz k = (-2 * k - 1).toNat := by unfold zz; rw [if_neg (by omega)]
    rw [e6, hw _ (by omega)]
    omega
  · have e1 : k / 9223372036854775808 = 0 := by omega
    have e2 : IntKind.u64.wrap 0 = 0 := rfl
    have e3 : IntKind.u64.wrap (IntKind.u64.wrap k * 2) = 2 * k := by rw [u64_wrap, u64_wrap]; omega
    rw [e1, e2, e3]
    have e4 : BitVec.ofInt 64 0 = 0#64 := rfl
    rw [e4, BitVec.xor_zero]
    have e5 : (BitVec.ofInt 64 (2 * k)).toNat = (2 * k).toNat := by
      rw [BitVec.toNat_ofInt]
      congr 1
      exact Int.emod_eq_of_lt (by omega) (by omega)
    rw [e5]
    have e6 : zz k = (2 * k).toNat := by unfold zz; rw [if_pos (by omega)]
    rw [e6, hw _ (by omega)]
theorem or_high (c : Nat) : bits .or .u8 (((c % 256 : Nat) : Int)) 128 = (((UInt8.ofNat (c % 128 + 128)).toNat : Nat) : Int) := by
  have h : ∀ x : Nat, x < 256 → bits .or .u8 (x : Int) 128 = (((UInt8.ofNat (x % 128 + 128)).toNat : Nat) : Int) := by decide +kernel
  rw [h _ (by omega)]
  congr 3
  omega
theorem low_byte {c : Nat} (h : c < 128) : (UInt8.ofNat c).toNat = c := by
  rw [UInt8.toNat_ofNat']; exact Nat.mod_eq_of_lt (by omega)
def Lt64 (c : Nat) : Prop := c < 18446744073709551616
def NumRel (w : World) (base n : Nat) (xs : List Value) (k : Int) (v' v5 : Value) (wr : World) : Prop :=
  ∃ (c : Nat) (pre : List UInt8), v5 = .int .u64 c ∧ Hid (Lt64 c ∧ vi (zz k) = pre ++ vi c ∧ RowF wr base 5 1 v' (n + pre.length) (xs ++ byc pre) ∧ Below base w wr)
theorem info5 : (Tryz.prog.info? 5).map (fun i => (i.zero, i.size, i.bytes)) = some (some (.int .u8 0), 1, 1) := by kernel_rfl
set_option maxRecDepth 100000 in
set_option maxHeartbeats 800000 in
theorem number_any (w : World) (base : Nat) (v : Value) (n : Nat) (xs : List Value) (k : Int) (hown : RowF w base 5 1 v n xs) (hb : base ≤ w.heap.size) (hn : n ≤ 100000) (h1 : -9223372036854775808 ≤ k) (h2 : k < 9223372036854775808) :
    Calls Tryz.prog 151 #[v, .int .i64 k] w fun e w' => ∃ v', e = .returned v' ∧ w'.ownsRow base 5 1 v' (n + (vi (zz k)).length) (xs ++ byc (vi (zz k))) ∧ Below base w w' := by
  have hx := xor_zz k h1 h2
  have hzl := zz_lt h1 h2
  have hten := vi_ten hzl
  have HW := hid hown
  have HZ : Lt64 (zz k) := hzl
  clear hown hzl h1 h2
  go_enter Tryz.func151, Tryz.ntmps151
  go_wp2_with fail
  clear hx
  go_loopw [0, 5] (fun v0 v5 wr => NumRel w base n xs k v0 v5 wr) (fun _ v5 _ => (intOf v5).toNat)
  case atStart => exact ⟨zz k, [], rfl, hid ⟨HZ, rfl, by simpa [byc] using HW.out, Below.refl _ _⟩⟩
  case round =>
    obtain ⟨c, pre, rfl, hI⟩ := hrel
    have hpl : pre.length + (vi c).length ≤ 10 := by have := hI.out.2.1; rw [this, List.length_append] at hten; exact hten
    have hwb := Below.size hI.out.2.2.2
    by_cases h128 : c < 128
    · have h128i : ¬ (128 : Int) ≤ (c : Int) := by omega
      have hlow := hid (low_byte h128)
      go_wp2_with (at_builtin; refine wpList_app1 _ rfl (.tmp 23) (.tmp 26) 172 5 (.int .u8 0) 1 rfl Tryz.underlying172 info5 rfl (by decide) base u0 (n + pre.length) (xs ++ byc pre) rfl hI.out.2.2.1 _ rfl rfl (by omega) (by omega) ?_; intro v' w' h1 h2)
      go_ret
      have e1 : vi (zz k) = pre ++ [UInt8.ofNat c] := by rw [hI.out.2.1, vi_lt h128]
      have e2 : byc (pre ++ [UInt8.ofNat c]) = byc pre ++ [.int .u8 (c : Int)] := by
        rw [byc_append]
        simp only [byc, List.map_cons, List.map_nil, hlow.out]
      refine ⟨v', rfl, ?_, hI.out.2.2.2.trans h2⟩
      rw [e1, e2, List.length_append, ← List.append_assoc]
      exact h1
    · have h128i : (128 : Int) ≤ (c : Int) := by omega
      go_wp2_with (at_builtin; refine wpList_app1 _ rfl (.tmp 17) (.tmp 21) 172 5 (.int .u8 0) 1 rfl Tryz.underlying172 info5 rfl (by decide) base u0 (n + pre.length) (xs ++ byc pre) rfl hI.out.2.2.1 _ rfl rfl (by omega) (by omega) ?_; intro v' w' h1 h2)
      go_roundw
      case rel =>
        have e1 : vi (zz k) = (pre ++ [UInt8.ofNat (c % 128 + 128)]) ++ vi (c / 128) := by rw [hI.out.2.1, vi_ge h128]; simp
        have e2 : byc (pre ++ [UInt8.ofNat (c % 128 + 128)]) = byc pre ++ [.int .u8 (bits .or .u8 ((c : Int) % 256) 128)] := by
          rw [byc_append]
          simp only [byc, List.map_cons, List.map_nil]
          have := or_high c
          rw [show ((c : Int) % 256) = ((c % 256 : Nat) : Int) from by omega, this]
        refine ⟨c / 128, pre ++ [UInt8.ofNat (c % 128 + 128)], by go_num, hid ⟨?_, e1, .inl ?_, hI.out.2.2.2.trans h2⟩⟩
        · have := hI.out.1
          unfold Lt64 at *
          omega
        · rw [e2, List.length_append, ← List.append_assoc, ← Nat.add_assoc]
          exact h1
      case measure => simp [intOf]; omega
end Go.Proofs.YtopbojifllnckaaGreatDoor
namespace Go.Proofs.YtopbojifllnckaaGreatDoor
open Go.RowKit
attribute [local irreducible] wpQuiet
theorem own_string {w : World} {base n : Nat} {v : Value} {l : List UInt8} (h : w.ownsRow base 5 1 v n (byc l)) (hl : 0 < l.length) :
    ∃ g cap, v = .slice (some ⟨g, 0, none⟩) n cap ∧ (convert 172 9 v).run Tryz.prog w = .ok (.string ⟨l.toArray⟩) w := by
  have hn : l.length = n := by have := h.1; rw [byc_length] at this; omega
  obtain ⟨g, cap, hv, _, _⟩ := h.form (by omega)
  subst hv
  refine ⟨g, cap, rfl, ?_⟩
  have := run_convert_bytes_back (P := Tryz.prog) w 172 9 5 ⟨g, 0, none⟩ cap l Tryz.underlying172 Tryz.underlying5 Tryz.underlying9 (fun j hj => h.cells (g := g) rfl j _ (by simp [byc, hj]))
  rw [hn] at this
  exact this
theorem xor_neg (k : Int) (h1 : -9223372036854775808 ≤ k) (h2 : k < 0) : bits .xor .u64 (IntKind.u64.wrap (IntKind.u64.wrap k * 2)) 18446744073709551615 = ((zz k : Nat) : Int) := by
  have h := xor_zz k h1 (by omega)
  rw [show k / 9223372036854775808 = -1 from by omega] at h
  exact h
theorem twice_pos (k : Int) (h1 : 0 ≤ k) (h2 : k < 9223372036854775808) : IntKind.u64.wrap (IntKind.u64.wrap k * 2) = ((zz k : Nat) : Int) := by
  have e6 : zz k = (2 * k).toNat := by unfold zz; rw [if_pos h1]
  rw [e6, u64_wrap, u64_wrap]
  omega
theorem or_high2 (c : Nat) : bits .or .u8 (((c % 128 : Nat) : Int)) 128 = (((UInt8.ofNat (c % 128 + 128)).toNat : Nat) : Int) := by
  have h : ∀ x : Nat, x < 128 → bits .or .u8 (x : Int) 128 = (((UInt8.ofNat (x + 128)).toNat : Nat) : Int) := by decide +kernel
  exact h _ (by omega)
theorem and127 (c : Nat) (h : Lt64 c) : bits .and .u64 (c : Int) 127 = ((c % 128 : Nat) : Int) := by
  have := u64_and_nat c 127 h (by omega)
  rw [show (127 : Nat) = 2 ^ 7 - 1 from rfl, Nat.and_two_pow_sub_one_eq_mod] at this
  exact this
def NumRel2 (w : World) (k : Int) (v' v5 : Value) (wr : World) : Prop :=
  ∃ (c : Nat) (pre : List UInt8), v5 = .int .u64 c ∧ Hid (Lt64 c ∧ vi (zz k) = pre ++ vi c ∧ wr.ownsRow w.heap.size 5 1 v' pre.length (byc pre) ∧ Below w.heap.size w wr)
set_option maxRecDepth 100000 in
set_option maxHeartbeats 800000 in
theorem int33_any (w : World) (k : Int) (h1 : -9223372036854775808 ≤ k) (h2 : k < 9223372036854775808) :
    Calls Tryz.prog 33 #[.int .i64 k] w fun e w' => e = .returned (.string ⟨(vi (zz k)).toArray⟩) ∧ Below w.heap.size w w' := by
  have hzl := zz_lt h1 h2
  have hten := vi_ten hzl
  have HZ : Lt64 (zz k) := hzl
  clear hzl
  by_cases hk : k < 0
  all_goals
    first
      | have hx := xor_neg k h1 hk
      | have hx := twice_pos k (by omega) h2
    clear h1 h2
    go_enter Tryz.func33, Tryz.ntmps33
    go_wp2_with fail
    clear hx
    go_loopw [3, 4] (fun v3 v4 wr => NumRel2 w k v4 v3 wr) (fun v3 _ _ => (intOf v3).toNat)
    case atStart => exact ⟨zz k, [], rfl, hid ⟨HZ, rfl, World.ownsRow_nil _ _ _ _, Below.refl _ _⟩⟩
    case round =>
      obtain ⟨c, pre, rfl, hI⟩ := hrel
      have hpl : pre.length + (vi c).length ≤ 10 := by have := hI.out.2.1; rw [this, List.length_append] at hten; exact hten
      have hwb := Below.size hI.out.2.2.2
      by_cases h128 : c < 128
      · have h128i : ¬ (128 : Int) ≤ (c : Int) := by omega
        have hlow := hid (low_byte h128)
        have e1 : Hid (vi (zz k) = pre ++ [UInt8.ofNat c]) := by show _ = _; rw [hI.out.2.1, vi_lt h128]
        have e2 : Hid (byc (vi (zz k)) = byc pre ++ [.int .u8 (c : Int)]) := by
          show _ = _
          rw [e1.out, byc_append]
          simp only [byc, List.map_cons, List.map_nil, hlow.out]
        go_wp2_with (at_builtin; refine wpList_app1 _ rfl (.tmp 23) (.tmp 26) 172 5 (.int .u8 0) 1 rfl Tryz.underlying172 info5 rfl (by decide) w.heap.size u4 pre.length (byc pre) rfl (.inl hI.out.2.2.1) _ rfl rfl (by omega) (by omega) ?_; intro v' w' h1 h2; rw [← e2.out] at h1; obtain ⟨g, cap, rfl, hcv⟩ := own_string h1 (by rw [e1.out]; simp); have H2 := hid h2; clear h1 h2)
        go_ret
        exact ⟨rfl, hI.out.2.2.2.trans H2.out⟩
      · have h128i : (128 : Int) ≤ (c : Int) := by omega
        go_wp2_with (at_builtin; refine wpList_app1 _ rfl (.tmp 14) (.tmp 19) 172 5 (.int .u8 0) 1 rfl Tryz.underlying172 info5 rfl (by decide) w.heap.size u4 pre.length (byc pre) rfl (.inl hI.out.2.2.1) _ rfl rfl (by omega) (by omega) ?_; intro v' w' h1 h2)
        go_roundw
        case rel =>
          have e1 : vi (zz k) = (pre ++ [UInt8.ofNat (c % 128 + 128)]) ++ vi (c / 128) := by rw [hI.out.2.1, vi_ge h128]; simp
          refine ⟨c / 128, pre ++ [UInt8.ofNat (c % 128 + 128)], by go_num, hid ⟨?_, e1, ?_, hI.out.2.2.2.trans h2⟩⟩
          · have := hI.out.1
            unfold Lt64 at *
            omega
          · have e2 : byc (pre ++ [UInt8.ofNat (c % 128 + 128)]) = byc pre ++ [.int .u8 (bits .or .u8 (bits .and .u64 (c : Int) 127 % 256) 128)] := by
              rw [byc_append]
              simp only [byc, List.map_cons, List.map_nil]
              have := or_high2 c
              rw [and127 c hI.out.1, show (((c % 128 : Nat) : Int) % 256) = ((c % 128 : Nat) : Int) from by omega, this]
            rw [e2, List.length_append]
            exact h1
        case measure => simp [intOf]; omega
end Go.Proofs.YtopbojifllnckaaGreatDoor
namespace Go.Proofs.YtopbojifllnckaaGreatDoor
open Go.RowKit
attribute [local irreducible] wpQuiet
/-- A number of 64 bits. -/
def I64 (k : Int) : Prop := -9223372036854775808 ≤ k ∧ k < 9223372036854775808
/-- A command, in plain words. -/
structure Cmd where
  cl : Int
  sq : Int
  kd : Int
  a : Int
  b : Int
  c : Int
  d : Int
  e : Int
def Cmd.list (x : Cmd) : List Int := [x.cl, x.sq, x.kd, x.a, x.b, x.c, x.d, x.e]
def Cmd.cells (x : Cmd) : Array Value := #[.int .i64 x.cl, .int .i64 x.sq, .int .i64 x.kd, .int .i64 x.a, .int .i64 x.b, .int .i64 x.c, .int .i64 x.d, .int .i64 x.e]
structure Cmd.OK (x : Cmd) : Prop where
  c0 : 0 ≤ x.cl
  c1 : x.cl < 16
  s0 : 0 ≤ x.sq
  s1 : x.sq < 2147483648
  k0 : 1 ≤ x.kd
  k1 : x.kd ≤ 9
structure Cmd.In (x : Cmd) : Prop where
  a : I64 x.a
  b : I64 x.b
  c : I64 x.c
  d : I64 x.d
  e : I64 x.e
theorem Cmd.all {x : Cmd} (h : x.OK) (k : x.In) : ∀ n ∈ x.list, I64 n := by
  intro n hn
  have h0 := h.c0; have h1 := h.c1; have h2 := h.s0; have h3 := h.s1; have h4 := h.k0; have h5 := h.k1
  simp only [Cmd.list, List.mem_cons, List.not_mem_nil, or_false] at hn
  rcases hn with rfl | rfl | rfl | rfl | rfl | rfl | rfl | rfl
  · exact ⟨by omega, by omega⟩
  · exact ⟨by omega, by omega⟩
  · exact ⟨by omega, by omega⟩
  · exact k.a
  · exact k.b
  · exact k.c
  · exact k.d
  · exact k.e
def encC (x : Cmd) : ByteArray := ⟨(vis x.list).toArray⟩
def str33 (k : Int) : ByteArray := ⟨(vi (zz k)).toArray⟩
theorem str33_size {k : Int} (h : I64 k) : (str33 k).size ≤ 10 := by
  have := vi_ten (zz_lt h.1 h.2)
  simpa [str33, ByteArray.size] using this
theorem c33 {k : Int} (h : I64 k) (w : World) (d : Nat) (os : Array Obj) : Calls Tryz.prog 33 #[.int .i64 k] (Go.Sort.grow (redrawn w d) os) fun e w'' => e = .returned (.string (str33 k)) ∧ ∃ p : Regrown, w'' = Go.Sort.grow (redrawn w p.d) p.os :=
  Calls.regrown_of (int33_any _ k h.1 h.2)
theorem encC_eq (x : Cmd) : encC x = str33 x.cl ++ str33 x.sq ++ str33 x.kd ++ str33 x.a ++ str33 x.b ++ str33 x.c ++ str33 x.d ++ str33 x.e := by
  apply ByteArray.ext
  simp [encC, str33, vis, Cmd.list, ByteArray.data_append]
set_option maxRecDepth 100000 in
set_option maxHeartbeats 1600000 in
theorem renc_ok (x : Cmd) (h : x.OK) (k : x.In) (w : World) :
    Calls Tryz.prog 7 #[.agg x.cells] w fun e w' => e = .returned (.tuple #[.string (encC x), .int .i64 0]) ∧ Below w.heap.size w w' := by
  have hall := Cmd.all h k
  have h0 := h.c0; have h1 := h.c1; have h2 := h.s0; have h3 := h.s1; have h4 := h.k0; have h5 := h.k1
  have hE := hid (encC_eq x)
  obtain ⟨cl, sq, kd, a, b, c, d, e⟩ := x
  simp only [Cmd.cells] at *
  simp only [Cmd.list, List.mem_cons, List.not_mem_nil, or_false] at hall
  have k0 := hid (hall cl (by simp)); have k1 := hid (hall sq (by simp)); have k2 := hid (hall kd (by simp)); have k3 := hid (hall a (by simp))
  have k4 := hid (hall b (by simp)); have k5 := hid (hall c (by simp)); have k6 := hid (hall d (by simp)); have k7 := hid (hall e (by simp))
  clear hall h k
  have s0 := str33_size k0.out; have s1 := str33_size k1.out; have s2 := str33_size k2.out; have s3 := str33_size k3.out
  have s4 := str33_size k4.out; have s5 := str33_size k5.out; have s6 := str33_size k6.out; have s7 := str33_size k7.out
  have d0 : decide (cl < 0) = false := by simp; omega
  have d1 : decide (16 ≤ cl) = false := by simp; omega
  have d2 : decide (sq < 0) = false := by simp; omega
  have d3 : decide (2147483648 ≤ sq) = false := by simp; omega
  have d4 : decide (kd < 1) = false := by simp; omega
  have d5 : decide (9 < kd) = false := by simp; omega
  obtain ⟨W, hW⟩ : ∃ W, W = w.alloc (.cells #[.int .i64 cl, .int .i64 sq, .int .i64 kd, .int .i64 a, .int .i64 b, .int .i64 c, .int .i64 d, .int .i64 e] 30) := ⟨_, rfl⟩
  have hB := Blk.new w 30 #[.int .i64 cl, .int .i64 sq, .int .i64 kd, .int .i64 a, .int .i64 b, .int .i64 c, .int .i64 d, .int .i64 e]
  have hBB : Below w.heap.size w W := by rw [hW]; exact (Below.refl _ _).alloc (Nat.le_refl _) _
  rw [← hW] at hB
  have q0 := cell_regrown (hB.cell 0); have q1 := cell_regrown (hB.cell 1); have q2 := cell_regrown (hB.cell 2); have q3 := cell_regrown (hB.cell 3)
  have q4 := cell_regrown (hB.cell 4); have q5 := cell_regrown (hB.cell 5); have q6 := cell_regrown (hB.cell 6); have q7 := cell_regrown (hB.cell 7)
  have HW := hid hW
  have HB := hid hBB
  clear hB hBB hW
  go_enter Tryz.func7, Tryz.ntmps7
  go_wp2_with fail
  rw [← HW.out]
  clear d0 d1 d2 d3 d4 d5 h0 h1 h2 h3 h4 h5
  have n1 : ¬ 9223372036854775807 < (str33 cl).size + (str33 sq).size := by omega
  have n2 : ¬ 9223372036854775807 < (str33 cl).size + (str33 sq).size + (str33 kd).size := by omega
  have n3 : ¬ 9223372036854775807 < (str33 cl).size + (str33 sq).size + (str33 kd).size + (str33 a).size := by omega
  have n4 : ¬ 9223372036854775807 < (str33 cl).size + (str33 sq).size + (str33 kd).size + (str33 a).size + (str33 b).size := by omega
  have n5 : ¬ 9223372036854775807 < (str33 cl).size + (str33 sq).size + (str33 kd).size + (str33 a).size + (str33 b).size + (str33 c).size := by omega
  have n6 : ¬ 9223372036854775807 < (str33 cl).size + (str33 sq).size + (str33 kd).size + (str33 a).size + (str33 b).size + (str33 c).size + (str33 d).size := by omega
  have n7 : ¬ 9223372036854775807 < (str33 cl).size + (str33 sq).size + (str33 kd).size + (str33 a).size + (str33 b).size + (str33 c).size + (str33 d).size + (str33 e).size := by omega
  clear s0 s1 s2 s3 s4 s5 s6 s7
  refine wp_region_quiet_below (by kernel_rfl) (by kernel_rfl) ?_
  repeat (quiet_step ((refine c33 ?_ _ _ _; first | exact k0.out | exact k1.out | exact k2.out | exact k3.out | exact k4.out | exact k5.out | exact k6.out | exact k7.out)))
  refine wpQuiet_nil ?_
  intro _ hw'
  obtain ⟨⟨dq, osq⟩, hw''⟩ := hw'
  subst hw''
  go_wp2
  go_ret2
  refine ⟨?_, HB.out.trans ((below_regrown W dq osq).mono HB.out.size)⟩
  rw [hE.out]
  rfl
set_option maxRecDepth 100000 in
set_option maxHeartbeats 1600000 in
theorem renc_bad (x : Cmd) (h : ¬ x.OK) (w : World) :
    Calls Tryz.prog 7 #[.agg x.cells] w fun e w' => e = .returned (.tuple #[.string ⟨#[]⟩, .int .i64 1]) ∧ Below w.heap.size w w' := by
  have hh : x.cl < 0 ∨ 16 ≤ x.cl ∨ (0 ≤ x.cl ∧ x.cl < 16 ∧ x.sq < 0) ∨ (0 ≤ x.cl ∧ x.cl < 16 ∧ 2147483648 ≤ x.sq) ∨ (0 ≤ x.cl ∧ x.cl < 16 ∧ 0 ≤ x.sq ∧ x.sq < 2147483648 ∧ x.kd < 1) ∨ (0 ≤ x.cl ∧ x.cl < 16 ∧ 0 ≤ x.sq ∧ x.sq < 2147483648 ∧ 9 < x.kd) := by
    by_cases h0 : x.cl < 0
    · exact .inl h0
    by_cases h1 : 16 ≤ x.cl
    · exact .inr (.inl h1)
    by_cases h2 : x.sq < 0
    · exact .inr (.inr (.inl ⟨by omega, by omega, h2⟩))
    by_cases h3 : 2147483648 ≤ x.sq
    · exact .inr (.inr (.inr (.inl ⟨by omega, by omega, h3⟩)))
    by_cases h4 : x.kd < 1
    · exact .inr (.inr (.inr (.inr (.inl ⟨by omega, by omega, by omega, by omega, h4⟩))))
    by_cases h5 : 9 < x.kd
    · exact .inr (.inr (.inr (.inr (.inr ⟨by omega, by omega, by omega, by omega, h5⟩))))
    exact absurd ⟨by omega, by omega, by omega, by omega, by omega, by omega⟩ h
  obtain ⟨cl, sq, kd, a, b, c, d, e⟩ := x
  simp only [Cmd.cells] at *
  have hB := hid (((Below.refl w.heap.size w).alloc (Nat.le_refl _) (.cells #[.int .i64 cl, .int .i64 sq, .int .i64 kd, .int .i64 a, .int .i64 b, .int .i64 c, .int .i64 d, .int .i64 e] 30)))
  clear h
  rcases hh with h | h | h | h | h | h
  all_goals
    first | have d0 : decide (cl < 0) = true := by (simp; omega) | have d0 : decide (cl < 0) = false := by (simp; omega) | skip
    first | have d1 : decide (16 ≤ cl) = true := by (simp; omega) | have d1 : decide (16 ≤ cl) = false := by (simp; omega) | skip
    first | have d2 : decide (sq < 0) = true := by (simp; omega) | have d2 : decide (sq < 0) = false := by (simp; omega) | skip
    first | have d3 : decide (2147483648 ≤ sq) = true := by (simp; omega) | have d3 : decide (2147483648 ≤ sq) = false := by (simp; omega) | skip
    first | have d4 : decide (kd < 1) = true := by (simp; omega) | have d4 : decide (kd < 1) = false := by (simp; omega) | skip
    first | have d5 : decide (9 < kd) = true := by (simp; omega) | have d5 : decide (9 < kd) = false := by (simp; omega) | skip
    clear h
    go_enter Tryz.func7, Tryz.ntmps7
    go_wp2_with fail
    go_ret2
    exact ⟨rfl, hB.out⟩
end Go.Proofs.YtopbojifllnckaaGreatDoor
namespace Go.Proofs.YtopbojifllnckaaGreatDoor
open Go.RowKit
attribute [local irreducible] wpQuiet
attribute [local go_sem high] run_mxI run_mnI
/-- A writer with nothing wrong: its bytes l. -/
def WrAt (w : World) (base g : Nat) (l : List UInt8) : Prop :=
  base ≤ g ∧ ∃ A c, Blk w g 260 #[.int .i64 65536, .slice A l.length c, .int .i64 0] ∧ w.ownsRow base 5 1 (.slice A l.length c) l.length (byc l)
theorem rowF_full {w : World} {base base' e size n c : Nat} {A : Option Addr} {xs : List Value} (h : w.ownsRow base e size (.slice A n c) n xs) : RowF w base' e size (.slice A n n) n xs := by
  cases A with
  | none =>
    rcases h.2 with ⟨h1, h2⟩ | ⟨g, cap, cur, h1, _⟩
    · subst h2
      exact .inl ⟨h.1, .inl ⟨rfl, rfl⟩⟩
    · cases h1
  | some ad =>
    refine .inr ⟨ad, rfl, h.1, fun j u hu => ?_⟩
    have hx : 0 < xs.length := by
      rcases Nat.eq_zero_or_pos xs.length with h0 | h0
      · rw [List.eq_nil_of_length_eq_zero h0] at hu; simp at hu
      · exact h0
    obtain ⟨ad', h1, _, h2⟩ := (own_holdsS h).1 hx
    cases h1
    exact h2 j u hu
section
variable {w : World} {base g : Nat} {l : List UInt8}
theorem newW_any (w : World) : Calls Tryz.prog 84 #[.int .i64 65536] w fun e w' => e = .returned (.pointer (some ⟨w.heap.size, 0, none⟩)) ∧ WrAt w' w.heap.size w.heap.size [] ∧ Below w.heap.size w w' := by
  have h1 : mxI 65536 0 = 65536 := rfl
  have h2 : mnI 65536 65536 = 65536 := rfl
  go_enter Tryz.func84, Tryz.ntmps84
  go_wp2_with fail
  go_ret
  exact ⟨rfl, ⟨Nat.le_refl _, none, 0, Blk.new w _ _, World.ownsRow_nil _ _ _ _⟩, (Below.refl _ _).alloc (Nat.le_refl _) _⟩
/-- What a closure does that is handed to lay. -/
def Lays (w : World) (f : Value) (ys : List UInt8) : Prop :=
  ∃ (F p : Nat), f = .func (.func F) #[] #[.pointer (some ⟨p, 0, none⟩)] ∧ (F = 149 ∨ F = 150 ∨ F = 214) ∧ ∀ q v n xs, RowF (w.drewN q) w.heap.size 5 1 v n xs → n ≤ 70000 → Calls Tryz.prog F #[v, .pointer (some ⟨p, 0, none⟩)] (w.drewN q) fun e w' => ∃ v', e = .returned v' ∧ w'.ownsRow w.heap.size 5 1 v' (n + ys.length) (xs ++ byc ys) ∧ Below w.heap.size (w.drewN q) w'
set_option maxRecDepth 100000 in
set_option maxHeartbeats 800000 in
theorem lay_all (h : WrAt w base g l) (f : Value) (ys : List UInt8) (hf : Lays w f ys) (hl : l.length + ys.length ≤ 65536) :
    Calls Tryz.prog 148 #[.pointer (some ⟨g, 0, none⟩), f] w fun e w' => e = .returned (.tuple #[]) ∧ WrAt w' base g (l ++ ys) ∧ Below base w w' ∧ Only (· = g) w w' := by
  obtain ⟨hbg, A, c, hb, hr⟩ := h
  have e0 : w.cell? ⟨g, 0, none⟩ = some (.int .i64 65536) := by rw [hb.cell]; rfl
  have e1 : w.cell? ⟨g, 1, none⟩ = some (.slice A l.length c) := by rw [hb.cell]; rfl
  have e2 : w.cell? ⟨g, 2, none⟩ = some (.int .i64 0) := by rw [hb.cell]; rfl
  obtain ⟨F, p, rfl, hFF, hF⟩ := hf
  have hlc : l.length ≤ c := (own_holdsS hr).2.1
  have HF := hid hF
  have HR := hid hr
  have HB := hid hb
  clear hF hr hb
  go_enter Tryz.func148, Tryz.ntmps148
  go_wp2_with fail
  go_still_tail 16, (by kernel_rfl)
  rcases hFF with rfl | rfl | rfl
  all_goals
    change wpList _ _ _ _ _ (w.drewN 1)
    go_wp2_with fail
    refine (HF.out 1 _ _ _ (rowF_full HR.out) (by omega)).mono ?_
    rintro e w' ⟨v', rfl, h1, h2⟩
    obtain ⟨A', c', rfl⟩ := own_form h1
    replace h2 := (below_drewN (Below.refl w.heap.size w) 1).trans h2
    have hg := hid ((Blk.lt HB.out))
    have e0' : w'.cell? ⟨g, 0, none⟩ = some (.int .i64 65536) := by rw [(Blk.below HB.out h2 hg.out).cell]; rfl
    have f1' : w'.frozen? ⟨g, 1, none⟩ = false := (Blk.below HB.out h2 hg.out).frozen 1
    have c1' : w'.cell? ⟨g, 1, none⟩ = some (.slice A l.length c) := by rw [(Blk.below HB.out h2 hg.out).cell]; rfl
    have hli : ¬ (65536 : Int) < ((l.length + ys.length : Nat) : Int) := by omega
    have H1 := hid h1
    have H2 := hid h2
    clear h1 h2
    go_wp2_with fail
    go_end0
    have hB' := (Blk.below HB.out H2.out hg.out).set_ 1 (.slice A' (l.length + ys.length) c')
    refine ⟨rfl, ⟨hbg, A', c', ?_, ?_⟩, ?_, ?_⟩
    · rw [List.length_append]; exact hB'
    · rw [List.length_append, byc_append]
      refine own_lower (own_keep H1.out fun k hk _ => Below.heap_setCell w' _ _ k ?_) (by have := hg.out; omega)
      have := hg.out
      show k ≠ g
      omega
    · exact (H2.out.mono (by have := hg.out; omega)).setCell (p := ⟨g, 1, none⟩) hbg _
    · exact (Only.of_below (S := (· = g)) H2.out fun k hk _ => hk).setCell (p := ⟨g, 1, none⟩) (.inl rfl) _
theorem lay_any (h : WrAt w base g l) (f : Value) (ys : List UInt8) (hf : Lays w f ys) (hl : l.length + ys.length ≤ 65536) :
    Calls Tryz.prog 148 #[.pointer (some ⟨g, 0, none⟩), f] w fun e w' => e = .returned (.tuple #[]) ∧ WrAt w' base g (l ++ ys) ∧ Below base w w' :=
  (lay_all h f ys hf hl).mono fun _ _ ⟨h1, h2, h3, _⟩ => ⟨h1, h2, h3⟩
end
end Go.Proofs.YtopbojifllnckaaGreatDoor
