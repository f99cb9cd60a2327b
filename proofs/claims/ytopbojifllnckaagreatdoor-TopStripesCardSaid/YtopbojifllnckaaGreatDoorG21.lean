/- smap: Begin. smap: On. smap: On, Move. imap: where inodes stand: nothing but numbers. usage: uses in memory: rows of numbers; find. usage.errno of the errors that there are. usage: Dead. Rows of uses: what copy, append in place and clear leave. usage: slices.Delete, Drop. -/
import Derived.Deep.RegionLaw
import Derived.Deep.DeepCutAuto
import Derived.LaidEql
import Derived.Stop.Asserts
import Derived.KernelRfl
import Derived.Laws.IdiomCopy
import Derived.Laws.CopyOwn
import Derived.Lib.AppendZeros
import Derived.Test.YtopbojifllnckaaGreatDoorG20
namespace Go.Proofs.YtopbojifllnckaaGreatDoor
open Go.RowKit
attribute [local irreducible] wpQuiet
section
variable {P : Program} (w : World) {o : Oper} {a : Act} {K : Act → World → Prop} {Q : Exit → Act → World → Prop}
/-- One element more of any size, out of a row that was just built. -/
theorem step_appB {ops : Array Oper} {E : Prop} (hgd : o.guard = none) (s x : Operand) (t e : TypeId) (z : Value) (size bytes : Nat) (ho : o.op = .call { callee := .builtin .append, args := #[s, x], argTypes := #[t, t] })
    (ht : P.underlying t = some (.slice e)) (hinfo : (P.info? e).map (fun i => (i.zero, i.size, i.bytes)) = some (some z, size, bytes)) (hz : z.cells.size = size) (hs0 : 0 < size) (hb0 : 0 < bytes)
    (base : Nat) (v : Value) (n : Nat) (xs : List Value) (hs : a.eval s = v) (hown : w.ownsRow base e size v n xs) (cs : Array Value) (hcs : cs.size = size) (hx : a.eval x = .slice (some ⟨w.heap.size, 0, none⟩) 1 1)
    (h1 : ∀ u ∈ cs.toList, u.oneCell' = true) (hlen : (n + 1) * bytes ≤ 140737488355328) (hbase : base ≤ w.heap.size)
    (h : ∀ v' w', w'.ownsRow base e size v' (n + 1) (xs ++ cs.toList) → w.heap.size ≤ w'.heap.size → (∀ k, k < w.heap.size → v.ownBlock ≠ some k → w'.heap[k]? = w.heap[k]?) → (w'.os = w.os ∧ w'.tape = w.tape ∧ w'.output = w.output) → (v'.ownBlock = v.ownBlock ∨ v'.ownBlock = some (w.heap.size + 1)) → K (a.put o.dst v') w') :
    if Region.wanted o (yielded ops a.tmps) = true then Oper.wp P o a (w.alloc (.cells cs e)) K Q else E := by
  have hw : Region.wanted o (yielded ops a.tmps) = true := by simp [Region.wanted, hgd]
  rw [if_pos hw]
  refine wp_appS (w.alloc (.cells cs e)) s x t e z size bytes ho ht hinfo hz hs0 hb0 base v n xs hs (hown.alloc _) (w.heap.size + 1) (some ⟨w.heap.size, 0, none⟩) 1 1 cs.toList hx (by simp [hcs]) ?_ h1 hlen (by simp; omega) fun v' w' h2 h3 h4 => h v' w' h2 ?_ ?_ ⟨h3.os, h3.tape, h3.output⟩ ?_
  · have := Holds.of_blk (B := w.heap.size + 1) (Blk.new w e cs) 0 size (by omega)
    rw [List.drop_zero, List.take_of_length_le (by simp [hcs])] at this
    exact this
  · have := h3.size
    simp at this
    omega
  · intro k hk hne
    exact (h3.block k (by simp; omega) (fun e => hne e.symm)).trans (Below.heap_alloc w _ k hk)
  · simpa using h4
/-- The same, behind a draw. -/
theorem step_appBd {ops : Array Oper} {E : Prop} (hgd : o.guard = none) (s x : Operand) (t e : TypeId) (z : Value) (size bytes : Nat) (ho : o.op = .call { callee := .builtin .append, args := #[s, x], argTypes := #[t, t] })
    (ht : P.underlying t = some (.slice e)) (hinfo : (P.info? e).map (fun i => (i.zero, i.size, i.bytes)) = some (some z, size, bytes)) (hz : z.cells.size = size) (hs0 : 0 < size) (hb0 : 0 < bytes)
    (base : Nat) (v : Value) (n : Nat) (xs : List Value) (hs : a.eval s = v) (hown : w.ownsRow base e size v n xs) (cs : Array Value) (hcs : cs.size = size) (hx : a.eval x = .slice (some ⟨w.heap.size, 0, none⟩) 1 1)
    (h1 : ∀ u ∈ cs.toList, u.oneCell' = true) (hlen : (n + 1) * bytes ≤ 140737488355328) (hbase : base ≤ w.heap.size)
    (h : ∀ v' w', w'.ownsRow base e size v' (n + 1) (xs ++ cs.toList) → w.heap.size ≤ w'.heap.size → (∀ k, k < w.heap.size → v.ownBlock ≠ some k → w'.heap[k]? = w.heap[k]?) → (w'.os = w.os ∧ w'.tape = w.tape ∧ w'.output = w.output) → (v'.ownBlock = v.ownBlock ∨ v'.ownBlock = some (w.heap.size + 1)) → K (a.put o.dst v') w') :
    if Region.wanted o (yielded ops a.tmps) = true then Oper.wp P o a (w.alloc (.cells cs e)).drew K Q else E :=
  step_appB w.drew hgd s x t e z size bytes ho ht hinfo hz hs0 hb0 base v n xs hs hown cs hcs hx h1 hlen hbase h
end
theorem info37 : (Tryz.prog.info? 37).map (fun i => (i.zero, i.size, i.bytes)) = some (some (.agg #[.int .i64 0, .int .i64 0, .int .i64 0, .int .i64 0, .int .i64 0, .slice none 0 0]), 6, 64) := by kernel_rfl
theorem Smp.mono {S T : Nat → Prop} {w : World} {g : Nat} {L : List Str} (h : Smp S w g L) (hST : ∀ k, S k → T k) : Smp T w g L := by
  obtain ⟨A, c, op, h1, h2, h3, h4, h5⟩ := h
  exact ⟨A, c, op, h1, h2, hST _ h3, fun ad e => hST _ (h4 ad e), fun s hs => ⟨hST _ (h5 s hs).1, (h5 s hs).2⟩⟩
/-- How Begin ends. -/
def BEnd (S : Nat → Prop) (w : World) (g : Nat) (L : List Str) (ow ep ln : Int) (e : Ending) (w' : World) : Prop :=
  Only S w w' ∧ ((∃ er : Nat, er ≠ 0 ∧ er < 17 ∧ e = .returned (.tuple #[.int .i64 0, .int .i64 er]) ∧ Smp S w' g L) ∨
    ∃ q c, e = .returned (.tuple #[.int .i64 L.length, .int .i64 0]) ∧ Smp (Grow S w w') w' g (L ++ [⟨1, ow, ep, ln, q, c⟩]))
section
variable {S : Nat → Prop} {w : World} {g : Nat} {L : List Str} {B c : Nat} {A : Option Addr} {xs : List Int}
/-- The last step of Begin. -/
theorem begin_end {W W' : World} {A0 A2 : Option Addr} {c0 c1 c2 q p : Nat} {op ow ep ln x : Int} {T : Array Value} (hD : Smp S W g L) (hb : Blk W g 156 #[.slice A0 L.length c0, .int .i64 op]) (hrow0 : W.ownsRow 0 37 6 (.slice A0 L.length c0) L.length (rowS 0 L)) (hS0 : ∀ ad, A0 = some ad → S ad.block)
    (hB : Below w.heap.size w W) (hq : W.ownsRow w.heap.size 3 1 (.slice (some ⟨q, 0, none⟩) 3 c1) 3 (nums xs)) (hp : Blk W p 37 T)
    (hT : T = #[.int .i64 (L.length : Int), .int .i64 1, .int .i64 ow, .int .i64 ep, .int .i64 ln, .slice (some ⟨q, 0, none⟩) 3 c1])
    (h1 : W'.ownsRow 0 37 6 (.slice A2 (L.length + 1) c2) (L.length + 1) (rowS 0 L ++ T.toList)) (h2 : W.heap.size ≤ W'.heap.size) (h3 : ∀ k, k < W.heap.size → (Value.slice A0 L.length c0).ownBlock ≠ some k → W'.heap[k]? = W.heap[k]?)
    (h4 : W'.os = W.os ∧ W'.tape = W.tape ∧ W'.output = W.output) (h5 : (Value.slice A2 (L.length + 1) c2).ownBlock = (Value.slice A0 L.length c0).ownBlock ∨ (Value.slice A2 (L.length + 1) c2).ownBlock = some (W.heap.size + 1)) :
    Only S w ((W'.setCell ⟨g, 0, none⟩ (.slice A2 (L.length + 1) c2)).setCell ⟨g, 1, none⟩ (.int .i64 x)) ∧
    Smp (Grow S w ((W'.setCell ⟨g, 0, none⟩ (.slice A2 (L.length + 1) c2)).setCell ⟨g, 1, none⟩ (.int .i64 x))) ((W'.setCell ⟨g, 0, none⟩ (.slice A2 (L.length + 1) c2)).setCell ⟨g, 1, none⟩ (.int .i64 x)) g (L ++ [⟨1, ow, ep, ln, q, c1⟩]) := by
  subst hT
  obtain ⟨A1, c3, op', k1, k2, hsg, k4, hsv⟩ := hD
  have hown : ∀ r, (Value.slice A0 L.length c0).ownBlock = some r → S r ∧ ∃ cur, Blk W r 37 cur := fun r e => by
    rcases own_blk hrow0 with ⟨rfl, _⟩ | ⟨r', cur, rfl, _, h7, _⟩
    · cases e
    · cases e; exact ⟨hS0 _ rfl, cur, h7⟩
  have hgo : ∀ k t cur, Blk W k t cur → t ≠ 37 → (Value.slice A0 L.length c0).ownBlock ≠ some k := fun k t cur hk ht e => by
    obtain ⟨_, cur', hk'⟩ := hown k e
    exact hk.ne_ hk' ht rfl
  have hbg : Blk W' g 156 #[.slice A0 L.length c0, .int .i64 op] := (h3 g hb.lt (hgo g _ _ hb (by decide))).trans hb
  have hl : (L ++ [(⟨1, ow, ep, ln, q, c1⟩ : Str)]).length = L.length + 1 := by simp
  have hz : ((W'.setCell ⟨g, 0, none⟩ (.slice A2 (L.length + 1) c2)).setCell ⟨g, 1, none⟩ (.int .i64 x)).heap.size = W'.heap.size := by simp [World.setCell]
  have hkeep : ∀ k, k ≠ g → ((W'.setCell ⟨g, 0, none⟩ (.slice A2 (L.length + 1) c2)).setCell ⟨g, 1, none⟩ (.int .i64 x)).heap[k]? = W'.heap[k]? := fun k hk => (Below.heap_setCell _ _ _ k hk).trans (Below.heap_setCell _ _ _ k hk)
  have hints : ∀ (b t cc : Nat) (ys : List Int), W.ownsRow t 3 1 (.slice (some ⟨b, 0, none⟩) 3 cc) 3 (nums ys) → ((W'.setCell ⟨g, 0, none⟩ (.slice A2 (L.length + 1) c2)).setCell ⟨g, 1, none⟩ (.int .i64 x)).ownsRow 0 3 1 (.slice (some ⟨b, 0, none⟩) 3 cc) 3 (nums ys) := fun b t cc ys hy => by
    rcases own_blk hy with ⟨e, _⟩ | ⟨b', cur, e, _, h7, _⟩
    · cases e
    · cases e
      refine own_lower (own_at hy fun ad e hlt => ?_) (Nat.zero_le _)
      cases e
      exact (hkeep b (h7.ne_ hb (by decide))).trans (h3 b hlt (hgo b _ _ h7 (by decide)))
  refine ⟨⟨h4.1.trans hB.os, h4.2.1.trans hB.tape, h4.2.2.trans hB.output, by rw [hz]; exact Nat.le_trans hB.size h2, fun k hk hs => ?_⟩, A2, c2, x, ?_, ?_, .inl hsg, fun ad e => ?_, fun s hs => ?_⟩
  · exact (hkeep k (fun e => hs (e ▸ hsg))).trans ((h3 k (Nat.lt_of_lt_of_le hk hB.size) (fun e => hs (hown k e).1)).trans (hB.block k hk))
  · rw [hl]
    exact (hbg.set_ 0 _).set_ 1 _
  · rw [hl, rowS_append, Nat.zero_add]
    refine own_at h1 fun ad e hlt => hkeep _ ?_
    subst e
    rcases own_blk h1 with ⟨e, _⟩ | ⟨b', cur, e, _, h7, _⟩
    · cases e
    · cases e
      exact h7.ne_ hbg (by decide)
  · subst e
    rcases own_blk h1 with ⟨e, _⟩ | ⟨b', cur, e, _, h7, _⟩
    · cases e
    · cases e
      rcases h5 with h5 | h5
      · exact .inl (hown b' h5.symm).1
      · have e1 : b' = W.heap.size + 1 := by injection h5
        refine .inr ⟨by have := hB.size; show w.heap.size ≤ b'; omega, ?_⟩
        rw [hz]
        exact h7.lt
  · rcases List.mem_append.1 hs with hs | hs
    · obtain ⟨h8, ys, h9⟩ := hsv s hs
      exact ⟨.inl h8, ys, hints _ _ _ _ h9⟩
    · obtain rfl := List.mem_singleton.1 hs
      refine ⟨.inr ⟨?_, ?_⟩, xs, hints _ _ _ _ hq⟩
      · rcases own_blk hq with ⟨e, _⟩ | ⟨b', cur, e, h6, h7, _⟩
        · cases e
        · cases e; exact h6
      · rw [hz]
        rcases own_blk hq with ⟨e, _⟩ | ⟨b', cur, e, h6, h7, _⟩
        · cases e
        · cases e; exact Nat.lt_of_lt_of_le h7.lt h2
end
end Go.Proofs.YtopbojifllnckaaGreatDoor
namespace Go.Proofs.YtopbojifllnckaaGreatDoor
open Go.RowKit
attribute [local irreducible] wpQuiet
theorem cellA {w : World} {a : Addr} {v : Value} (h : w.cell? a = some v) (o : Obj) : (w.alloc o).cell? a = some v :=
  (World.cell?_of_block (w := w) (Below.heap_alloc w o a.block (World.block_lt_of_cell? w a h))).trans h
section
variable {S : Nat → Prop} {w : World} {g : Nat} {L : List Str}
def WhRel (w wr : World) (k : Nat) (v5 : Value) : Prop := ∃ J : List Int, wr.ownsRow w.heap.size 3 1 v5 J.length (nums J) ∧ J.length ≤ k ∧ Below w.heap.size w wr
end
end Go.Proofs.YtopbojifllnckaaGreatDoor
namespace Go.Proofs.YtopbojifllnckaaGreatDoor
open Go.RowKit
attribute [local irreducible] wpQuiet
section
variable {S : Nat → Prop} {w : World} {g : Nat} {L : List Str}
/-- A server is written. -/
theorem AtS.server {r : Nat} (h : AtS S w g L r) {s : Str} (hs : s ∈ L) (j : Nat) (y : Int) : AtS S (w.setCell ⟨s.g, j, none⟩ (.int .i64 y)) g L r := by
  obtain ⟨⟨c, op, h1, h2⟩, h3, h4, h5⟩ := h
  obtain ⟨_, xs0, hs0⟩ := h5 s hs
  have hbs : ∃ cur, Blk w s.g 3 cur := by
    rcases own_blk hs0 with ⟨e, _⟩ | ⟨q, cur, e, _, h7, _⟩
    · cases e
    · cases e; exact ⟨cur, h7⟩
  obtain ⟨cur, hcur⟩ := hbs
  refine ⟨⟨c, op, h1.far (h1.ne_ hcur (by decide)) _, own_at h2 fun ad e hlt => Below.heap_setCell w _ _ _ ?_⟩, h3, h4, fun t ht => ?_⟩
  · cases e
    rcases own_blk h2 with ⟨e, _⟩ | ⟨q, cur', e, _, h7, _⟩
    · cases e
    · cases e
      exact h7.ne_ hcur (by decide)
  · obtain ⟨h6, xs, h7⟩ := h5 t ht
    refine ⟨h6, ?_⟩
    by_cases e : t.g = s.g
    · have hset := (h7.stored j (.int .i64 y)).1
      rw [e] at hset
      have hl : xs.length = 3 := by have := h7.1; rw [nums_length] at this; omega
      refine ⟨xs.set j y, ?_⟩
      rw [e]
      unfold nums at hset ⊢
      rw [List.map_set]
      exact hset
    · exact ⟨xs, own_at h7 fun ad e2 hlt => Below.heap_setCell w _ _ _ (by cases e2; exact e)⟩
end
end Go.Proofs.YtopbojifllnckaaGreatDoor
namespace Go.Proofs.YtopbojifllnckaaGreatDoor
open Go.RowKit
attribute [local irreducible] wpQuiet
/-- Cells that are numbers. -/
def AllInt (cs : Array Value) : Prop := ∀ i, i < cs.size → ∃ n : Int, cs[i]? = some (.int .i64 n)
theorem AllInt.set {cs : Array Value} (h : AllInt cs) (i : Nat) (n : Int) : AllInt (cs.setIfInBounds i (.int .i64 n)) := fun j hj => by
  rw [Array.size_setIfInBounds] at hj
  rw [Array.getElem?_setIfInBounds]
  by_cases e : i = j
  · subst e
    rw [if_pos rfl, if_pos hj]
    exact ⟨n, rfl⟩
  · rw [if_neg e]
    exact h j hj
end Go.Proofs.YtopbojifllnckaaGreatDoor
namespace Go.Proofs.YtopbojifllnckaaGreatDoor
open Go.RowKit
attribute [local irreducible] wpQuiet
/-- A row of uses: n of them, room for c. -/
def IRow (S : Nat → Prop) (w : World) (A : Option Addr) (n c : Nat) : Prop :=
  (A = none ∧ n = 0 ∧ c = 0) ∨ ∃ r cur, A = some ⟨r, 0, none⟩ ∧ S r ∧ Blk w r 336 cur ∧ n ≤ c ∧ c ≤ maxLen ∧ cur.size = c * 4 ∧ AllInt cur
/-- The uses in blocks of S: at most N. -/
def Usg (S : Nat → Prop) (w : World) (g N : Nat) : Prop := ∃ A n c, Blk w g 164 #[.slice A n c] ∧ S g ∧ n ≤ N ∧ IRow S w A n c
section
variable {S T : Nat → Prop} {w w' : World} {g N n c : Nat} {A : Option Addr}
theorem IRow.keep (h : IRow S w A n c) (hk : ∀ k, S k → k < w.heap.size → w'.heap[k]? = w.heap[k]?) : IRow S w' A n c := by
  rcases h with h | ⟨r, cur, h1, h2, h3, h4⟩
  · exact .inl h
  · exact .inr ⟨r, cur, h1, h2, (hk r h2 h3.lt).trans h3, h4⟩
theorem IRow.mono (h : IRow S w A n c) (hST : ∀ k, S k → T k) : IRow T w A n c := by
  rcases h with h | ⟨r, cur, h1, h2, h3⟩
  · exact .inl h
  · exact .inr ⟨r, cur, h1, hST _ h2, h3⟩
theorem Usg.keep (h : Usg S w g N) (hk : ∀ k, S k → k < w.heap.size → w'.heap[k]? = w.heap[k]?) : Usg S w' g N := by
  obtain ⟨A, n, c, h1, h2, h3, h4⟩ := h
  exact ⟨A, n, c, (hk g h2 h1.lt).trans h1, h2, h3, h4.keep hk⟩
theorem Usg.mono (h : Usg S w g N) (hST : ∀ k, S k → T k) {M : Nat} (hM : N ≤ M) : Usg T w g M := by
  obtain ⟨A, n, c, h1, h2, h3, h4⟩ := h
  exact ⟨A, n, c, h1, hST _ h2, by omega, h4.mono hST⟩
theorem IRow.four (h : IRow S w A n c) {i : Nat} (hi : i < n) : ∃ r, A = some ⟨r, 0, none⟩ ∧ S r ∧ r < w.heap.size ∧ ∃ a b d e : Int, w.cell? ⟨r, i * 4, none⟩ = some (.int .i64 a) ∧ w.cell? ⟨r, i * 4 + 1, none⟩ = some (.int .i64 b) ∧ w.cell? ⟨r, i * 4 + 2, none⟩ = some (.int .i64 d) ∧ w.cell? ⟨r, i * 4 + 3, none⟩ = some (.int .i64 e) := by
  rcases h with ⟨_, h, _⟩ | ⟨r, cur, rfl, h1, h2, h3, _, h4, h5⟩
  · omega
  · obtain ⟨a, ha⟩ := h5 (i * 4) (by omega)
    obtain ⟨b, hb⟩ := h5 (i * 4 + 1) (by omega)
    obtain ⟨d, hd⟩ := h5 (i * 4 + 2) (by omega)
    obtain ⟨e, he⟩ := h5 (i * 4 + 3) (by omega)
    exact ⟨r, rfl, h1, h2.lt, a, b, d, e, (h2.cell _).trans ha, (h2.cell _).trans hb, (h2.cell _).trans hd, (h2.cell _).trans he⟩
/-- A number is given back. -/
def RInt (e : Ending) : Prop := ∃ n : Int, e = .returned (.int .i64 n)
theorem ucmp_any (a b d e x : Int) (w : World) : Calls Tryz.prog 294 #[.agg #[.int .i64 a, .int .i64 b, .int .i64 d, .int .i64 e], .int .i64 x] w fun r w' => RInt r ∧ Below w.heap.size w w' := by
  have hb := hid ((Below.refl w.heap.size w).alloc (Nat.le_refl _) (.cells #[.int .i64 a, .int .i64 b, .int .i64 d, .int .i64 e] 336))
  by_cases h1 : a < x
  · go_enter Tryz.func294, Tryz.ntmps294
    go_wp2_with fail
    go_ret
    exact ⟨⟨_, rfl⟩, hb.out⟩
  · by_cases h2 : x < a
    · go_enter Tryz.func294, Tryz.ntmps294
      go_wp2_with fail
      go_ret
      exact ⟨⟨_, rfl⟩, hb.out⟩
    · go_enter Tryz.func294, Tryz.ntmps294
      go_wp2_with fail
      go_ret
      exact ⟨⟨_, rfl⟩, hb.out⟩
/-- A place is given back, and whether it is just there. -/
def RFind (n : Nat) (e : Ending) : Prop := ∃ (i : Nat) (t : Bool), i ≤ n ∧ (t = true → i < n) ∧ e = .returned (.tuple #[.int .i64 i, .bool t])
set_option maxRecDepth 100000 in
set_option maxHeartbeats 1600000 in
theorem ubin_any (h : IRow S w A n c) (hn : n ≤ 1000000) (x : Int) :
    Calls Tryz.prog 293 #[.slice A n c, .int .i64 x, .func (.func 294) #[] #[]] w fun e w' => RFind n e ∧ Below w.heap.size w w' := by
  have H := hid h
  clear h
  go_enter Tryz.func293, Tryz.ntmps293
  go_wp2_with fail
  go_loopw [9, 10] (fun v9 v10 wr => ∃ i j : Nat, i ≤ j ∧ j ≤ n ∧ v9 = .int .i64 i ∧ v10 = .int .i64 j ∧ Hid (Below w.heap.size w wr)) (fun v9 v10 _ => (intOf v10).toNat - (intOf v9).toNat)
  case atStart => exact ⟨0, n, Nat.zero_le _, Nat.le_refl _, rfl, rfl, Below.refl _ _⟩
  case round =>
    obtain ⟨i, j, hij, hjn, rfl, rfl, hB⟩ := hrel
    by_cases hlt : i < j
    · obtain ⟨m, hm⟩ : ∃ m : Nat, m = (i + j) / 2 := ⟨_, rfl⟩
      have hmi : i ≤ m := by omega
      have hmj : m < j := by omega
      have hmn : m < n := by omega
      have hmm : Hid (((i : Int) + (j : Int)) / 2 = (m : Int)) := by show _ = _; omega
      have HM := hid hm
      clear hm
      have hr := H.out.keep (w' := wr) fun k _ hk => hB.out.block k hk
      obtain ⟨r, rfl, _, _, a, b, d, e, e0, e1, e2, e3⟩ := hr.four hmn
      have hwr := hB.out.size
      clear hr
      go_upto_region 5 with (fail)
      rw [hmm.out]
      go_wp2_with fail
      refine (ucmp_any a b d e x wr).mono ?_
      rintro q w1 ⟨⟨v, rfl⟩, h1⟩
      have H1 := hid (hB.out.trans (h1.mono hwr))
      clear h1
      by_cases hv : v < 0
      · go_wp2_with fail
        go_roundw
        case rel => exact ⟨m + 1, j, by omega, by omega, by go_num, rfl, H1⟩
        case measure => simp [intOf]; omega
      · go_wp2_with fail
        go_roundw
        case rel => exact ⟨i, m, by omega, by omega, rfl, rfl, H1⟩
        case measure => simp [intOf]; omega
    · obtain rfl : i = j := by omega
      have hwr := hB.out.size
      by_cases hin : i < n
      · have hr := H.out.keep (w' := wr) fun k _ hk => hB.out.block k hk
        obtain ⟨r, rfl, _, _, a, b, d, e, e0, e1, e2, e3⟩ := hr.four hin
        clear hr
        go_wp2_with fail
        refine (ucmp_any a b d e x wr).mono ?_
        rintro q w1 ⟨⟨v, rfl⟩, h1⟩
        have H1 := hid (hB.out.trans (h1.mono hwr))
        clear h1
        go_wp2_with fail
        go_ret2
        exact ⟨⟨i, _, hjn, fun _ => hin, rfl⟩, H1.out⟩
      · have d0 : decide (i < n) = false := by simp; omega
        go_wp2_with fail
        go_ret2
        exact ⟨⟨i, false, hjn, (fun h => by cases h), rfl⟩, hB.out⟩
theorem ufind_any (h : Usg S w g N) (hN : N ≤ 1000000) (x : Int) :
    Calls Tryz.prog 226 #[.pointer (some ⟨g, 0, none⟩), .int .i64 x] w fun e w' => ∃ A n c, Hid (Blk w g 164 #[.slice A n c] ∧ S g ∧ n ≤ N ∧ IRow S w A n c) ∧ RFind n e ∧ Below w.heap.size w w' := by
  obtain ⟨A, n, c, h1, h2, h3, h4⟩ := h
  have e0 : w.cell? ⟨g, 0, none⟩ = some (.slice A n c) := (h1.cell 0).trans rfl
  have hc := hid (ubin_any h4 (by omega) x)
  have H := hid (And.intro h1 (And.intro h2 (And.intro h3 h4)))
  clear h1 h2 h3 h4
  go_enter Tryz.func226, Tryz.ntmps226
  go_wp2_with fail
  refine hc.out.mono ?_
  rintro e w' ⟨⟨i, t, q1, q2, rfl⟩, h1⟩
  have H1 := hid h1
  have Q2 := hid q2
  clear h1 q2
  go_wp2_with fail
  go_ret2
  exact ⟨A, n, c, H, ⟨i, t, q1, Q2.out, rfl⟩, H1.out⟩
end
end Go.Proofs.YtopbojifllnckaaGreatDoor
namespace Go.Proofs.YtopbojifllnckaaGreatDoor
open Go.RowKit Go.Extern
attribute [local irreducible] wpQuiet
/-- A fault of use. -/
def flt (k : Int) : Value := .iface 408 (.agg #[.int .i64 k])
theorem zTypeOf (w : World) : (Extern.ReflectliteType.typeOf #[flt 0]).run Tryz.prog w = .ok (.iface 470 (.agg #[.pointer (some ⟨3, 408, none⟩)])) w := by kernel_rfl
theorem zComparable (w : World) : ((Extern.ReflectliteType.method fun t => do Extern.Rtype.noPackHeld "Comparable" t; (fun a => Value.bool a.comparable) <$> typeInfo t) #[.agg #[.pointer (some ⟨3, 408, none⟩)]]).run Tryz.prog w = .ok (.bool true) w := by kernel_rfl
theorem zMethodComparable (v : Value) (w : World) : (Go.method 628 470 v "Comparable").run Tryz.prog w = .ok (412, v) w := by kernel_rfl
theorem zMethodIs (v : Value) (w : World) : (Go.method 628 408 v "Is").run Tryz.prog w = .ok (407, v) w := by kernel_rfl
theorem zHasIs (v : Value) (xT : TypeId) (w : World) : (Instr.typeAssert (.iface 408 v) xT 472 true).run Tryz.prog w = .ok (.tuple #[.iface 408 v, .bool true]) w := run_typeAssert_hasB Tryz.underlying472 (by kernel_rfl) v xT w
theorem zFault (v : Value) (xT : TypeId) (w : World) : (Instr.typeAssert (.iface 408 v) xT 408 true).run Tryz.prog w = .ok (.tuple #[v, .bool true]) w := by kernel_rfl
/-- fault.Is of a fault. -/
theorem fIs_any (a b : Int) (w : World) : Calls Tryz.prog 407 #[.agg #[.int .i64 a], flt b] w fun e w' => e = .returned (.bool true) ∧ Below w.heap.size w w' := by
  have h1 := zFault (.agg #[.int .i64 b])
  unfold flt
  go_enter Tryz.func407, Tryz.ntmps407
  go_wp2_with fail
  go_ret
  exact ⟨rfl, ((Below.refl _ _).alloc (Nat.le_refl _) _).alloc (by simp) _⟩
/-- The errors' numbers. -/
def FNum (k : Int) : Prop := k = 1 ∨ k = 2 ∨ k = 6 ∨ k = 7
theorem zEql {k : Int} (h : FNum k) (w : World) : (binOp .eql 333 (flt k) (flt 0)).run Tryz.prog w = .ok (.bool false) w := by
  rcases h with rfl | rfl | rfl | rfl <;> kernel_rfl
set_option maxRecDepth 100000 in
set_option maxHeartbeats 1600000 in
theorem eis_any {k : Int} (h : FNum k) (w : World) : Calls Tryz.prog 326 #[flt k, flt 0, .bool true] w fun e w' => e = .returned (.bool true) ∧ Below w.heap.size w w' := by
  have he := zEql h
  have m1 := zMethodIs
  have a1 := zHasIs
  clear h
  have hc := fun W => hid (fIs_any k 0 W)
  unfold flt at *
  go_enter Tryz.func326, Tryz.ntmps326
  go_wp2_with fail
  refine wp_loop_rounds 1 ?_
  rw [rounds_succ]
  go_wp2_with fail
  refine (hc _).out.mono ?_
  rintro e w' ⟨rfl, h1⟩
  have H1 := hid h1
  clear h1
  go_wp2_with fail
  go_ret
  exact ⟨rfl, H1.out⟩
set_option maxRecDepth 100000 in
set_option maxHeartbeats 1600000 in
theorem is_any {k : Int} (h : FNum k) (w : World) : Calls Tryz.prog 290 #[flt k, flt 0] w fun e w' => e = .returned (.bool true) ∧ Below w.heap.size w w' := by
  have h325 := @run_callFunc_extern Tryz.prog 325 _ Extern.ReflectliteType.typeOf Tryz.func325 (by kernel_rfl) (by kernel_rfl) (by kernel_rfl) (by kernel_rfl)
  have h412 := @run_callFunc_extern Tryz.prog 412 _ (Extern.ReflectliteType.method fun t => do Extern.Rtype.noPackHeld "Comparable" t; pure (.bool (← typeInfo t).comparable)) Tryz.func412 (by kernel_rfl) (by kernel_rfl) (by kernel_rfl) (by kernel_rfl)
  have tT := zTypeOf
  have cT := zComparable
  have mR := zMethodComparable
  have hc := hid (eis_any h w)
  clear h
  unfold flt at *
  go_enter Tryz.func290, Tryz.ntmps290
  go_wp2_with fail
  refine hc.out.mono ?_
  rintro e w' ⟨rfl, h1⟩
  have H1 := hid h1
  clear h1
  go_wp2_with fail
  go_ret
  exact ⟨rfl, H1.out⟩
theorem errno_any {k : Int} (h : FNum k) (w : World) : Calls Tryz.prog 224 #[flt k] w fun e w' => RInt e ∧ Below w.heap.size w w' := by
  have hc := hid (is_any h w)
  have h1 := zFault (.agg #[.int .i64 k])
  clear h
  unfold flt at *
  go_enter Tryz.func224, Tryz.ntmps224
  go_wp2_with fail
  refine hc.out.mono ?_
  rintro e w' ⟨rfl, h1⟩
  have H1 := hid h1
  have hs := h1.size
  clear h1
  go_wp2_with fail
  go_ret
  exact ⟨⟨_, rfl⟩, H1.out.alloc hs _⟩
theorem errno_nil (w : World) : Calls Tryz.prog 224 #[.nilIface] w fun e w' => RInt e ∧ w = w' := by
  have h1 : ∀ w, Calls Tryz.prog 290 #[.nilIface, flt 0] w fun e w' => e = .returned (.bool false) ∧ w = w' := fun w => by
    have he := fun W => run_eql_iface_nil_left (P := Tryz.prog) W 408 (.agg #[.int .i64 0]) Tryz.underlying333
    unfold flt
    go_enter Tryz.func290, Tryz.ntmps290
    go_wp2_with fail
    go_ret
    exact ⟨rfl, rfl⟩
  have hc := hid (h1 w)
  clear h1
  unfold flt at hc
  go_enter Tryz.func224, Tryz.ntmps224
  go_wp2_with fail
  refine hc.out.mono ?_
  rintro e w' ⟨rfl, rfl⟩
  go_wp2_with fail
  go_ret
  exact ⟨⟨_, rfl⟩, rfl⟩
end Go.Proofs.YtopbojifllnckaaGreatDoor
namespace Go.Proofs.YtopbojifllnckaaGreatDoor
open Go.RowKit
attribute [local irreducible] wpQuiet
/-- An error of use is given back, or none. -/
def RErr (e : Ending) : Prop := e = .returned .nilIface ∨ ∃ k, FNum k ∧ e = .returned (flt k)
/-- How a call of uses ends. -/
def UEnd (S : Nat → Prop) (w : World) (g N : Nat) (w' : World) : Prop := Usg (Grow S w w') w' g N ∧ Only S w w'
section
variable {S : Nat → Prop} {w w' : World} {g N : Nat}
theorem Usg.stay (h : Usg S w g N) (hb : Below w.heap.size w w') : UEnd S w g N w' := ⟨(h.keep fun _ _ hk => hb.block _ hk).mono (fun _ h => .inl h) (Nat.le_refl _), Only.of_below hb fun _ hk _ => hk⟩
theorem IRow.put {A : Option Addr} {n c r i : Nat} (h : IRow S w A n c) (hA : A = some ⟨r, 0, none⟩) (x : Int) : IRow S (w.setCell ⟨r, i, none⟩ (.int .i64 x)) A n c := by
  rcases h with ⟨h, _⟩ | ⟨r', cur, h1, h2, h3, h4, h5, h6, h7⟩
  · rw [h] at hA; cases hA
  · rw [h1] at hA
    cases hA
    exact .inr ⟨_, _, h1, h2, h3.set_ i _, h4, h5, by simpa using h6, h7.set i x⟩
theorem IRow.frozen {A : Option Addr} {n c r : Nat} (h : IRow S w A n c) (hA : A = some ⟨r, 0, none⟩) (i : Nat) : w.frozen? ⟨r, i, none⟩ = false := by
  rcases h with ⟨h, _⟩ | ⟨r', cur, h1, h2, h3, _⟩
  · rw [h] at hA; cases hA
  · rw [h1] at hA
    cases hA
    exact h3.frozen i
theorem UEnd.then_ {w2 : World} (h : UEnd S w g N w') (hb : Below w'.heap.size w' w2) : UEnd S w g N w2 :=
  ⟨(h.1.keep fun _ _ hk => hb.block _ hk).mono (fun _ hk => hk.imp id fun x => ⟨x.1, Nat.lt_of_lt_of_le x.2 hb.size⟩) (Nat.le_refl _), h.2.then_below (hb.mono h.2.size)⟩
end
end Go.Proofs.YtopbojifllnckaaGreatDoor
namespace Go.Proofs.YtopbojifllnckaaGreatDoor
open Go.RowKit
attribute [local irreducible] wpQuiet
/-- Block r, of numbers, has turned; it is of numbers still. -/
structure IStep (w : World) (r : Nat) (w' : World) : Prop where
  blk : ∀ cur, Blk w r 336 cur → AllInt cur → ∃ cur', Blk w' r 336 cur' ∧ cur'.size = cur.size ∧ AllInt cur'
  other : ∀ k, k ≠ r → w'.heap[k]? = w.heap[k]?
  size : w'.heap.size = w.heap.size
  os : w'.os = w.os
  tape : w'.tape = w.tape
  output : w'.output = w.output
def IntL (vs : List Value) : Prop := ∀ v ∈ vs, ∃ n : Int, v = .int .i64 n
theorem IntL.one {vs : List Value} (h : IntL vs) : ∀ v ∈ vs, v.oneCell' = true := fun v hv => by
  obtain ⟨n, rfl⟩ := h v hv
  rfl
section
variable {w w' w2 : World} {r : Nat}
theorem IStep.refl (w : World) (r : Nat) : IStep w r w := ⟨fun cur h k => ⟨cur, h, rfl, k⟩, fun _ _ => rfl, rfl, rfl, rfl, rfl⟩
theorem IStep.trans (h : IStep w r w') (k : IStep w' r w2) : IStep w r w2 :=
  ⟨fun cur h1 h2 => by
    obtain ⟨c1, h3, h4, h5⟩ := h.blk cur h1 h2
    obtain ⟨c2, h6, h7, h8⟩ := k.blk c1 h3 h5
    exact ⟨c2, h6, h7.trans h4, h8⟩,
   fun j hj => (k.other j hj).trans (h.other j hj), k.size.trans h.size, k.os.trans h.os, k.tape.trans h.tape, k.output.trans h.output⟩
theorem IStep.cell (w : World) (r o : Nat) (n : Int) : IStep w r (w.setCell ⟨r, o, none⟩ (.int .i64 n)) :=
  ⟨fun cur h1 h2 => ⟨_, h1.set_ o _, by simp, h2.set o n⟩, fun k hk => Below.heap_setCell w _ _ k hk, by simp [World.setCell], rfl, rfl, rfl⟩
theorem IStep.cells : ∀ (vs : List Value) (w : World) (o : Nat), IntL vs → IStep w r (w.setCells r o vs)
  | [], w, _, _ => IStep.refl w r
  | v :: vs, w, o, h => by
    obtain ⟨n, rfl⟩ := h v List.mem_cons_self
    exact (IStep.cell w r o n).trans (IStep.cells vs _ (o + 1) fun u hu => h u (List.mem_cons_of_mem _ hu))
theorem IStep.row {cur : Array Value} (h : Blk w r 336 cur) {vs : List Value} (hv : IntL vs) (hl : vs.length = cur.size) : IStep w r (w.setRow r vs.toArray) :=
  ⟨fun cur' h1 _ => by
    have e : cur' = cur := by
      unfold Blk at h h1
      rw [h] at h1
      injection h1 with h1
      injection h1 with h1
      exact h1.symm
    subst e
    refine ⟨_, setRow_heap w r _ _ _ _ h, by simp [hl], fun i hi => ?_⟩
    have hi' : i < vs.length := by simpa using hi
    obtain ⟨n, hn⟩ := hv vs[i] (List.getElem_mem hi')
    exact ⟨n, by simp [hi', hn]⟩,
   fun k hk => setRow_other w r k _ hk, by simp, rfl, rfl, rfl⟩
theorem AllInt.list {cur : Array Value} (h : AllInt cur) : IntL cur.toList := fun v hv => by
  obtain ⟨i, hi, rfl⟩ := List.getElem_of_mem hv
  obtain ⟨n, hn⟩ := h i (by simpa using hi)
  refine ⟨n, ?_⟩
  have hi' : i < cur.size := by simpa using hi
  rw [Array.getElem?_eq_getElem hi'] at hn
  simpa using Option.some.inj hn
theorem IntL.sub {vs us : List Value} (h : IntL vs) (hs : ∀ u ∈ us, u ∈ vs) : IntL us := fun u hu => h u (hs u hu)
/-- What is read of a block of numbers. -/
theorem blk_reads {cur : Array Value} (h : Blk w r 336 cur) (o m : Nat) : ∀ j v, ((cur.toList.drop o).take m)[j]? = some v → w.cell? ((⟨r, o, none⟩ : Addr).add j) = some v := fun j v hj => by
  have ha : (⟨r, o, none⟩ : Addr).add j = ⟨r, o + j, none⟩ := by unfold Addr.add; split <;> simp_all
  rw [ha, h.cell]
  rw [List.getElem?_take] at hj
  split at hj
  · rw [List.getElem?_drop] at hj
    simpa using hj
  · cases hj
theorem info336 : (Tryz.prog.info? 336).map (fun i => (i.zero, i.size, i.bytes)) = some (some (.agg #[.int .i64 0, .int .i64 0, .int .i64 0, .int .i64 0]), 4, 32) := by kernel_rfl
/-- copy of uses. -/
theorem copyI {rs o os dl dc sl sc m : Nat} {cur curs : Array Value} (ty : TypeId) (hd : Blk w r 336 cur) (hs : Blk w rs 336 curs) (hsi : AllInt curs) (hm : m = Nat.min sl dl) (h1 : o + m * 4 ≤ cur.size) (h2 : os + m * 4 ≤ curs.size) :
    ∃ w', (Builtin.copy_ #[162, 162] ty #[.slice (some ⟨r, o, none⟩) dl dc, .slice (some ⟨rs, os, none⟩) sl sc]).run Tryz.prog w = .ok (.int .i64 m) w' ∧ IStep w r w' := by
  obtain ⟨i, hi, hzz⟩ := Option.map_eq_some_iff.1 info336
  simp only [Prod.mk.injEq] at hzz
  obtain ⟨_, hi4, _⟩ := hzz
  have hnl : ((curs.toList.drop os).take (m * 4)).length = m * 4 := by
    rw [List.length_take, List.length_drop, Array.length_toList]
    omega
  have hni : IntL ((curs.toList.drop os).take (m * 4)) := hsi.list.sub fun u hu => List.mem_of_mem_drop (List.mem_of_mem_take hu)
  have hf := run_firstCells_some (P := Tryz.prog) w 4 m ⟨rs, os, none⟩ sl sc _ hnl (blk_reads hs os (m * 4))
  have hst := run_storeCells_cells (P := Tryz.prog) r o ((curs.toList.drop os).take (m * 4)) 0 w (fun j hj => by
    rw [hnl] at hj
    rw [hd.cell]
    simp
    omega) (fun j _ => hd.frozen _) hni.one
  refine ⟨w.setCells r o ((curs.toList.drop os).take (m * 4)), ?_, IStep.cells _ _ _ hni⟩
  simp only [Nat.add_zero] at hst
  subst hm
  simp [Builtin.copy_, run_underlying Tryz.underlying162, Builtin.lenOf, sizeOf, typeInfo, hi, hi4, hf, hst, goInt]
end
end Go.Proofs.YtopbojifllnckaaGreatDoor
namespace Go.Proofs.YtopbojifllnckaaGreatDoor
open Go.RowKit
attribute [local irreducible] wpQuiet
section
variable {S : Nat → Prop} {w : World} {g N : Nat}
/-- A row has turned: the uses behind it. -/
theorem IStep.usg {w1 w2 : World} {r n c n' : Nat} (hb : Below w.heap.size w w1) (hg : Blk w1 g 164 #[.slice (some ⟨r, 0, none⟩) n c]) (hsg : S g) (hsr : S r) (hr : IRow S w1 (some ⟨r, 0, none⟩) n c) (hst : IStep w1 r w2) (hn' : n' ≤ c) (hN : n' ≤ N) (v : Value)
    (hv : v = .slice (some ⟨r, 0, none⟩) n' c) : UEnd S w g N (w2.setCell ⟨g, 0, none⟩ v) := by
  subst hv
  rcases hr with ⟨h, _⟩ | ⟨r', cur, h1, _, h3, _, h5, h6, h7⟩
  · cases h
  cases h1
  have hne : g ≠ r := hg.ne_ h3 (by decide)
  obtain ⟨cur', k1, k2, k3⟩ := hst.blk cur h3 h7
  have hg2 : Blk w2 g 164 #[.slice (some ⟨r, 0, none⟩) n c] := (hst.other g hne).trans hg
  have hsz : (w2.setCell ⟨g, 0, none⟩ (.slice (some ⟨r, 0, none⟩) n' c)).heap.size = w1.heap.size := by simp [World.setCell, hst.size]
  refine ⟨⟨_, n', c, hg2.set_ 0 _, .inl hsg, hN, .inr ⟨r, cur', rfl, .inl hsr, k1.far (p := ⟨g, 0, none⟩) (Ne.symm hne) _, hn', h5, by rw [k2]; exact h6, k3⟩⟩, ?_⟩
  refine setS hsg _ _ ⟨hst.os.trans hb.os, hst.tape.trans hb.tape, hst.output.trans hb.output, by rw [hst.size]; exact hb.size, fun k hk hs => ?_⟩
  exact (hst.other k (fun e => hs (e ▸ hsr))).trans (hb.block k hk)
end
end Go.Proofs.YtopbojifllnckaaGreatDoor
