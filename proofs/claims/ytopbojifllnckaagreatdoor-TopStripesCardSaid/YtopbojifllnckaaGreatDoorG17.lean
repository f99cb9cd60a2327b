/- Words for memory that the proofs of this seat share: blocks that are known whole, and worlds that differ in a few blocks alone. Numbers as bytes, in plain words: seven bits a byte; what is written is read back. No program in sight. append onto a row of the call's own, of elements of any number of cells. Who owns which block: a number for each block, so that six parts of a manager never touch each other's. append onto a row that is the call's own, or that is full (its room is its length). -/
import Derived.WalkKit
import Derived.WalkSpells
import Derived.WalkLawsBesides
import Derived.Laws.OwnMore
import Derived.Deep.Draws
import Derived.Laws.Rows
import Derived.Deep.Slices
import Derived.Maps.AppendAt
import Derived.Deep.AppendLies
import Derived.OwnWalk
import Derived.Test.YtopbojifllnckaaGreatDoorHSpA
namespace Go.Proofs.YtopbojifllnckaaGreatDoor
open Go.RowKit


/-- Block g is just the cells cs of element type t, none frozen. -/
def Blk (w : World) (g : Nat) (t : TypeId) (cs : Array Value) : Prop := w.heap[g]? = some (.cells cs t (0, 0))

/-- w' is w but for draws, new blocks, and what stands in the blocks of S. -/
structure Only (S : Nat → Prop) (w w' : World) : Prop where
  os : w'.os = w.os
  tape : w'.tape = w.tape
  output : w'.output = w.output
  size : w.heap.size ≤ w'.heap.size
  block : ∀ k, k < w.heap.size → ¬ S k → w'.heap[k]? = w.heap[k]?

section
variable {w w' w2 : World} {g : Nat} {t : TypeId} {cs : Array Value} {S T : Nat → Prop}
theorem Blk.lt (h : Blk w g t cs) : g < w.heap.size := by
  rcases Nat.lt_or_ge g w.heap.size with hlt | hge
  · exact hlt
  · unfold Blk at h; rw [Array.getElem?_eq_none hge] at h; cases h
theorem Blk.cell (h : Blk w g t cs) (i : Nat) : w.cell? ⟨g, i, none⟩ = cs[i]? := cell_of_row w g i cs t (0, 0) h
theorem Blk.frozen (h : Blk w g t cs) (i : Nat) : w.frozen? ⟨g, i, none⟩ = false := by
  unfold Blk at h
  simp [World.frozen?, h]
theorem Blk.new (w : World) (t : TypeId) (cs : Array Value) : Blk (w.alloc (.cells cs t)) w.heap.size t cs := heap_alloc_new w _
theorem Blk.alloc (h : Blk w g t cs) (o : Obj) : Blk (w.alloc o) g t cs := (Below.heap_alloc w o g h.lt).trans h
theorem Blk.set_ (h : Blk w g t cs) (i : Nat) (u : Value) : Blk (w.setCell ⟨g, i, none⟩ u) g t (cs.setIfInBounds i u) := by
  unfold Blk at h ⊢
  simp [World.setCell, Array.getElem?_modify, h]
theorem Blk.far (h : Blk w g t cs) {p : Addr} (hp : g ≠ p.block) (u : Value) : Blk (w.setCell p u) g t cs := (Below.heap_setCell w p u g hp).trans h
theorem Blk.drewN (h : Blk w g t cs) (n : Nat) : Blk (w.drewN n) g t cs := h
theorem Blk.drew (h : Blk w g t cs) : Blk w.drew g t cs := h
theorem Blk.only (h : Blk w g t cs) (ho : Only S w w') (hg : ¬ S g) : Blk w' g t cs := (ho.block g h.lt hg).trans h
theorem Blk.below {B : Nat} (h : Blk w g t cs) (hb : Below B w w') (hg : g < B) : Blk w' g t cs := (hb.block g hg).trans h
theorem Blk.ne_ {g' : Nat} {t' : TypeId} {cs' : Array Value} (h : Blk w g t cs) (h' : Blk w g' t' cs') (hne : t ≠ t') : g ≠ g' := by
  rintro rfl
  unfold Blk at h h'
  rw [h] at h'
  injection h' with h'
  injection h' with _ ht
  exact hne ht

theorem Only.refl (S : Nat → Prop) (w : World) : Only S w w := ⟨rfl, rfl, rfl, Nat.le_refl _, fun _ _ _ => rfl⟩
theorem Only.trans (h : Only S w w') (k : Only S w' w2) : Only S w w2 :=
  ⟨k.os.trans h.os, k.tape.trans h.tape, k.output.trans h.output, Nat.le_trans h.size k.size, fun i hi hs => (k.block i (Nat.lt_of_lt_of_le hi h.size) hs).trans (h.block i hi hs)⟩
theorem Only.mono (h : Only S w w') (hST : ∀ k, S k → T k) : Only T w w' := ⟨h.os, h.tape, h.output, h.size, fun k hk hs => h.block k hk (fun a => hs (hST k a))⟩
theorem Only.drewN (h : Only S w w') (n : Nat) : Only S w (w'.drewN n) := ⟨h.os, h.tape, h.output, h.size, h.block⟩
theorem Only.drew (h : Only S w w') : Only S w w'.drew := ⟨h.os, h.tape, h.output, h.size, h.block⟩
theorem Only.alloc (h : Only S w w') (o : Obj) : Only S w (w'.alloc o) :=
  ⟨h.os, h.tape, h.output, Nat.le_trans h.size (by simp), fun i hi hs => (Below.heap_alloc w' o i (Nat.lt_of_lt_of_le hi h.size)).trans (h.block i hi hs)⟩
theorem Only.setCell (h : Only S w w') {p : Addr} (hp : S p.block ∨ w.heap.size ≤ p.block) (u : Value) : Only S w (w'.setCell p u) :=
  ⟨h.os, h.tape, h.output, by simpa [World.setCell] using h.size, fun i hi hs => (Below.heap_setCell w' p u i (by
    rintro rfl
    rcases hp with hp | hp
    · exact hs hp
    · omega)).trans (h.block i hi hs)⟩
theorem Only.of_below {B : Nat} (h : Below B w w') (hB : ∀ k, k < w.heap.size → ¬ S k → k < B) : Only S w w' :=
  ⟨h.os, h.tape, h.output, h.size, fun k hk hs => h.block k (hB k hk hs)⟩
/-- Writes in S, then the new blocks: below B nothing has turned, if S lies from B on. -/
theorem Only.below (h : Only S w w') {B : Nat} (hB : B ≤ w.heap.size) (hS : ∀ k, k < B → ¬ S k) : Below B w w' :=
  ⟨h.os, h.tape, h.output, h.size, fun k hk => h.block k (by omega) (hS k hk)⟩
theorem Only.cell (h : Only S w w') {p : Addr} {v : Value} (hc : w.cell? p = some v) (hp : ¬ S p.block) : w'.cell? p = some v :=
  (World.cell?_of_block (w := w) (h.block p.block (World.block_lt_of_cell? w p hc) hp)).trans hc
end

/-- 'max' and 'min' of two whole numbers, closed to the walk. -/
def mxI (x y : Int) : Int := if x < y then y else x
def mnI (x y : Int) : Int := if y < x then y else x
theorem run_mxI (ats : Array TypeId) (ty : TypeId) (k k' : IntKind) (x y : Int) : Builtin.max_ ats ty #[.int k x, .int k' y] = pure (.int k (mxI x y)) := by
  simp [Builtin.max_, Builtin.max2, mxI]
theorem run_mnI (ats : Array TypeId) (ty : TypeId) (k k' : IntKind) (x y : Int) : Builtin.min_ ats ty #[.int k x, .int k' y] = pure (.int k (mnI x y)) := by
  simp [Builtin.min_, Builtin.min2, mnI]

/-! ### slices of one-cell elements that are read, and append onto a row of the call's own -/
/-- A slice at A reads xs (one cell an element), and lies below block B; nil and empty slices are let in. -/
def Holds (w : World) (B : Nat) (A : Option Addr) (xs : List Value) : Prop :=
  0 < xs.length → ∃ ad, A = some ad ∧ ad.block < B ∧ ∀ j u, xs[j]? = some u → w.cell? (ad.add j) = some u

theorem block_add (a : Addr) (n : Nat) : (a.add n).block = a.block := by unfold Addr.add; split <;> rfl
theorem add_plain (g j : Nat) : (⟨g, 0, none⟩ : Addr).add j = ⟨g, j, none⟩ := by unfold Addr.add; split <;> simp_all

section
variable {w w' : World} {B B' : Nat} {A : Option Addr} {xs : List Value} {S : Nat → Prop}
theorem Holds.nil_ (w : World) (B : Nat) (A : Option Addr) : Holds w B A [] := fun h => absurd h (by simp)
theorem Holds.keep (h : Holds w B A xs) (hk : ∀ k, k < B → w'.heap[k]? = w.heap[k]?) : Holds w' B A xs := fun hn => by
  obtain ⟨ad, e, hb, hc⟩ := h hn
  exact ⟨ad, e, hb, fun j u hu => (World.cell?_of_block (w := w) (hk _ (by rw [block_add]; exact hb))).trans (hc j u hu)⟩
theorem Holds.below (h : Holds w B A xs) (hb : Below B w w') : Holds w' B A xs := h.keep fun k hk => hb.block k hk
theorem Holds.more (h : Holds w B A xs) (hB : B ≤ B') : Holds w B' A xs := fun hn => by
  obtain ⟨ad, e, hb, hc⟩ := h hn
  exact ⟨ad, e, by omega, hc⟩
theorem Holds.drewN (h : Holds w B A xs) (n : Nat) : Holds (w.drewN n) B A xs := h
theorem Holds.of_own {base e n c : Nat} (h : w.ownsRow base e 1 (.slice A n c) n xs) : Holds w w.heap.size A xs := fun hn => by
  obtain ⟨g, cap, hv, _, hlt⟩ := h.form (by have := h.1; omega)
  have hA : A = some ⟨g, 0, none⟩ := by injection hv
  subst hA
  exact ⟨_, rfl, hlt, h.cells (g := g) rfl⟩
/-- A piece of a block that is known whole. -/
theorem Holds.of_blk {g : Nat} {t : TypeId} {cs : Array Value} (h : Blk w g t cs) (i n : Nat) (hg : g < B) : Holds w B (some ⟨g, i, none⟩) ((cs.toList.drop i).take n) := fun _ => by
  refine ⟨_, rfl, hg, fun j u hu => ?_⟩
  have ha : (⟨g, i, none⟩ : Addr).add j = ⟨g, i + j, none⟩ := by unfold Addr.add; split <;> simp_all
  rw [ha, h.cell]
  rw [List.getElem?_take] at hu
  split at hu
  · rw [List.getElem?_drop] at hu
    simpa using hu
  · cases hu

theorem own_keep {base e size n : Nat} {v : Value} (h : w.ownsRow base e size v n xs) (hk : ∀ k, base ≤ k → k < w.heap.size → w'.heap[k]? = w.heap[k]?) : w'.ownsRow base e size v n xs := by
  refine ⟨h.1, ?_⟩
  rcases h.2 with hn | ⟨g, cap, cur, rfl, hb, hg, r⟩
  · exact .inl hn
  · exact .inr ⟨g, cap, cur, rfl, hb, (hk g hb (Array.getElem?_eq_some_iff.1 hg).1).trans hg, r⟩
theorem own_only {base e size n : Nat} {v : Value} (h : w.ownsRow base e size v n xs) (ho : Only S w w') (hS : ∀ k, S k → k < base) : w'.ownsRow base e size v n xs :=
  own_keep h fun k hb hk => ho.block k hk (fun s => by have := hS k s; omega)
theorem own_lower {base base' e size n : Nat} {v : Value} (h : w.ownsRow base e size v n xs) (hb : base' ≤ base) : w.ownsRow base' e size v n xs := by
  refine ⟨h.1, ?_⟩
  rcases h.2 with hn | ⟨g, cap, cur, rfl, hg, r⟩
  · exact .inl hn
  · exact .inr ⟨g, cap, cur, rfl, Nat.le_trans hb hg, r⟩
theorem own_form {base e size n : Nat} {v : Value} (h : w.ownsRow base e size v n xs) : ∃ A c, v = .slice A n c := by
  rcases h.2 with ⟨rfl, rfl⟩ | ⟨g, cap, cur, rfl, _⟩
  · exact ⟨none, 0, rfl⟩
  · exact ⟨_, cap, rfl⟩
end

section
variable {P : Program} (w : World)
theorem run_app (base : Nat) (t ty e : TypeId) (z : Value) (bytes : Nat) (ht : P.underlying t = some (.slice e)) (hinfo : (P.info? e).map (fun i => (i.zero, i.size, i.bytes)) = some (some z, 1, bytes)) (hz : z.cells.size = 1) (hb0 : 0 < bytes)
    (v : Value) (xs : List Value) (hown : w.ownsRow base e 1 v xs.length xs) (B : Nat) (A : Option Addr) (c m : Nat) (ys : List Value) (hm : ys.length = m) (hr : Holds w B A ys) (h1 : ∀ u ∈ ys, u.oneCell' = true)
    (hlen : (xs.length + ys.length) * bytes ≤ 140737488355328) (hbase : base ≤ w.heap.size) :
    ∃ v' w', (Builtin.append_ #[t, t] ty #[v, .slice A m c]).run P w = .ok v' w' ∧ w'.ownsRow base e 1 v' (xs ++ ys).length (xs ++ ys) ∧ w.grownBy w' v.ownBlock ∧
      (v'.ownBlock = v.ownBlock ∨ v'.ownBlock = some w.heap.size) := by
  subst hm
  obtain ⟨i, hi, hzz⟩ := Option.map_eq_some_iff.1 hinfo
  simp only [Prod.mk.injEq] at hzz
  obtain ⟨hz0, hz1, hz2⟩ := hzz
  have hle : xs.length + ys.length ≤ 140737488355328 := Nat.le_trans (Nat.le_mul_of_pos_right _ hb0) hlen
  rcases A with _ | ad
  · have hy : ys = [] := by
      rcases Nat.eq_zero_or_pos ys.length with h0 | h0
      · exact List.eq_nil_of_length_eq_zero h0
      · obtain ⟨ad, h, _⟩ := hr h0
        cases h
    subst hy
    refine ⟨v, w, ?_, by simpa using hown, World.grownBy.refl w _, .inl rfl⟩
    rcases hown.2 with ⟨rfl, h0⟩ | ⟨g, cap, cur, rfl, _, _, hnc, _⟩
    · simp [Builtin.append_, run_underlying ht, sizeOf, typeInfo, hi, Builtin.lenOf, Builtin.firstCells]
    · simp [Builtin.append_, run_underlying ht, sizeOf, typeInfo, hi, Builtin.lenOf, Builtin.firstCells, hnc, storeCells]
  · have hcells : ∀ j u, ys[j]? = some u → w.cell? (ad.add j) = some u := by
      intro j u hu
      have hj : 0 < ys.length := by
        rcases Nat.eq_zero_or_pos ys.length with h0 | h0
        · rw [List.eq_nil_of_length_eq_zero h0] at hu; simp at hu
        · exact h0
      obtain ⟨ad', h, _, hc⟩ := hr hj
      injection h with h
      subst h
      exact hc j u hu
    obtain ⟨v', w', hrun, h2, h3, _, h5⟩ := run_append_own_at (P := P) w base t ty e i z 1 bytes ht hi hz0 hz1 hz2 hz (by omega) v xs.length xs hown ad ys.length c ys (by simp) hcells h1 (by simp only [maxLen]; omega) hlen hbase
    exact ⟨v', w', hrun, by rw [List.length_append]; exact h2, h3, h5⟩

variable {o : Oper} {a : Act} {K : Act → World → Prop} {Q : Exit → Act → World → Prop}
theorem wp_app (s x : Operand) (t e : TypeId) (z : Value) (bytes : Nat) (ho : o.op = .call { callee := .builtin .append, args := #[s, x], argTypes := #[t, t] })
    (ht : P.underlying t = some (.slice e)) (hinfo : (P.info? e).map (fun i => (i.zero, i.size, i.bytes)) = some (some z, 1, bytes)) (hz : z.cells.size = 1) (hb0 : 0 < bytes)
    (base : Nat) (v : Value) (xs : List Value) (hs : a.eval s = v) (hown : w.ownsRow base e 1 v xs.length xs) (B : Nat) (A : Option Addr) (c m : Nat) (ys : List Value) (hx : a.eval x = .slice A m c) (hm : ys.length = m) (hr : Holds w B A ys)
    (h1 : ∀ u ∈ ys, u.oneCell' = true) (hlen : (xs.length + ys.length) * bytes ≤ 140737488355328) (hbase : base ≤ w.heap.size)
    (h : ∀ v' w', w'.ownsRow base e 1 v' (xs ++ ys).length (xs ++ ys) → w.grownBy w' v.ownBlock → (v'.ownBlock = v.ownBlock ∨ v'.ownBlock = some w.heap.size) → K (a.put o.dst v') w') : o.wp P a w K Q := by
  obtain ⟨v', w', hrun, h2, h3, h4⟩ := run_app (P := P) w base t o.type e z bytes ht hinfo hz hb0 v xs hown B A c m ys hm hr h1 hlen hbase
  unfold Oper.wp execOp
  simp only [ho, resolve, invoke, builtin, Sem.run_bind, Sem.run_pure, Result.andThen_ok, List.map_toArray, List.map_cons, List.map_nil, hs, hx, hrun]
  exact h v' w' h2 h3 h4
theorem wpList_app {ops : Array Oper} {rest : List Oper} (hgd : o.guard = none) (s x : Operand) (t e : TypeId) (z : Value) (bytes : Nat) (ho : o.op = .call { callee := .builtin .append, args := #[s, x], argTypes := #[t, t] })
    (ht : P.underlying t = some (.slice e)) (hinfo : (P.info? e).map (fun i => (i.zero, i.size, i.bytes)) = some (some z, 1, bytes)) (hz : z.cells.size = 1) (hb0 : 0 < bytes)
    (base : Nat) (v : Value) (xs : List Value) (hs : a.eval s = v) (hown : w.ownsRow base e 1 v xs.length xs) (B : Nat) (A : Option Addr) (c m : Nat) (ys : List Value) (hx : a.eval x = .slice A m c) (hm : ys.length = m) (hr : Holds w B A ys)
    (h1 : ∀ u ∈ ys, u.oneCell' = true) (hlen : (xs.length + ys.length) * bytes ≤ 140737488355328) (hbase : base ≤ w.heap.size)
    (h : ∀ v' w', w'.ownsRow base e 1 v' (xs ++ ys).length (xs ++ ys) → w.grownBy w' v.ownBlock → (v'.ownBlock = v.ownBlock ∨ v'.ownBlock = some w.heap.size) → wpList P ops Q rest (a.put o.dst v') w') : wpList P ops Q (o :: rest) a w :=
  wpList_plain hgd fun _ hK => wp_app w s x t e z bytes ho ht hinfo hz hb0 base v xs hs hown B A c m ys hx hm hr h1 hlen hbase fun v' w' h2 h3 h4 => hK _ _ (h v' w' h2 h3 h4)
end

end Go.Proofs.YtopbojifllnckaaGreatDoor
namespace Go.Proofs.YtopbojifllnckaaGreatDoor
/-- A number's bytes. -/
def vi (u : Nat) : List UInt8 := if u < 128 then [UInt8.ofNat u] else UInt8.ofNat (u % 128 + 128) :: vi (u / 128)
termination_by u
decreasing_by omega
theorem vi_lt {u : Nat} (h : u < 128) : vi u = [UInt8.ofNat u] := by rw [vi, if_pos h]
theorem vi_ge {u : Nat} (h : ¬ u < 128) : vi u = UInt8.ofNat (u % 128 + 128) :: vi (u / 128) := by rw [vi, if_neg h]
/-- A number with a sign, as one without. -/
def zz (n : Int) : Nat := if 0 ≤ n then (2 * n).toNat else (-2 * n - 1).toNat
def unzz (u : Nat) : Int := if u % 2 = 0 then (u / 2 : Nat) else -((u / 2 : Nat) : Int) - 1
theorem unzz_zz (n : Int) : unzz (zz n) = n := by
  unfold unzz zz
  by_cases h : 0 ≤ n
  · rw [if_pos h, if_pos (by omega)]; omega
  · rw [if_neg h, if_neg (by omega)]; omega
theorem zz_lt {n : Int} (h1 : -9223372036854775808 ≤ n) (h2 : n < 9223372036854775808) : zz n < 18446744073709551616 := by
  unfold zz
  by_cases h : 0 ≤ n
  · rw [if_pos h]; omega
  · rw [if_neg h]; omega
/-- What is read, from byte i on: the number, and how many bytes it takes. -/
def gr : Nat → Nat → List UInt8 → Option (Nat × Nat)
  | _, _, [] => none
  | i, u, b :: l => if 10 ≤ i then none else if 128 ≤ b.toNat then gr (i + 1) (u + b.toNat % 128 * 128 ^ i) l
      else if (0 < i ∧ b.toNat = 0) ∨ (i = 9 ∧ 1 < b.toNat) then none else some (u + b.toNat * 128 ^ i, i + 1)
/-- Each number's bytes, one behind the other. -/
def vis (l : List Int) : List UInt8 := l.flatMap fun n => vi (zz n)
theorem vi_ne (u : Nat) : vi u ≠ [] := by
  by_cases h : u < 128
  · rw [vi_lt h]; simp
  · rw [vi_ge h]; simp
end Go.Proofs.YtopbojifllnckaaGreatDoor
namespace Go.Proofs.YtopbojifllnckaaGreatDoor
open Go.RowKit

section
variable {P : Program} (w : World)
theorem run_appS (base : Nat) (t ty e : TypeId) (z : Value) (size bytes : Nat) (ht : P.underlying t = some (.slice e)) (hinfo : (P.info? e).map (fun i => (i.zero, i.size, i.bytes)) = some (some z, size, bytes)) (hz : z.cells.size = size) (hs0 : 0 < size) (hb0 : 0 < bytes)
    (v : Value) (n : Nat) (xs : List Value) (hown : w.ownsRow base e size v n xs) (B : Nat) (A : Option Addr) (c m : Nat) (ys : List Value) (hm : ys.length = m * size) (hr : Holds w B A ys) (h1 : ∀ u ∈ ys, u.oneCell' = true)
    (hlen : (n + m) * bytes ≤ 140737488355328) (hbase : base ≤ w.heap.size) :
    ∃ v' w', (Builtin.append_ #[t, t] ty #[v, .slice A m c]).run P w = .ok v' w' ∧ w'.ownsRow base e size v' (n + m) (xs ++ ys) ∧ w.grownBy w' v.ownBlock ∧
      (v'.ownBlock = v.ownBlock ∨ v'.ownBlock = some w.heap.size) := by
  obtain ⟨i, hi, hzz⟩ := Option.map_eq_some_iff.1 hinfo
  simp only [Prod.mk.injEq] at hzz
  obtain ⟨hz0, hz1, hz2⟩ := hzz
  have hle : n + m ≤ 140737488355328 := Nat.le_trans (Nat.le_mul_of_pos_right _ hb0) hlen
  rcases A with _ | ad
  · have hy : ys = [] := by
      rcases Nat.eq_zero_or_pos ys.length with h0 | h0
      · exact List.eq_nil_of_length_eq_zero h0
      · obtain ⟨ad, h, _⟩ := hr h0
        cases h
    subst hy
    obtain rfl : m = 0 := by
      rcases Nat.eq_zero_or_pos m with h | h
      · exact h
      · have := Nat.mul_pos h hs0; simp at hm; omega
    refine ⟨v, w, ?_, by simpa using hown, World.grownBy.refl w _, .inl rfl⟩
    rcases hown.2 with ⟨rfl, rfl⟩ | ⟨g, cap, cur, rfl, _, _, hnc, _⟩
    · simp [Builtin.append_, run_underlying ht, sizeOf, typeInfo, hi, Builtin.lenOf, Builtin.firstCells]
    · simp [Builtin.append_, run_underlying ht, sizeOf, typeInfo, hi, Builtin.lenOf, Builtin.firstCells, hnc, storeCells]
  · have hcells : ∀ j u, ys[j]? = some u → w.cell? (ad.add j) = some u := by
      intro j u hu
      have hj : 0 < ys.length := by
        rcases Nat.eq_zero_or_pos ys.length with h0 | h0
        · rw [List.eq_nil_of_length_eq_zero h0] at hu; simp at hu
        · exact h0
      obtain ⟨ad', h, _, hc⟩ := hr hj
      injection h with h
      subst h
      exact hc j u hu
    obtain ⟨v', w', hrun, h2, h3, _, h5⟩ := run_append_own_at (P := P) w base t ty e i z size bytes ht hi hz0 hz1 hz2 hz hs0 v n xs hown ad m c ys hm hcells h1 (by simp only [maxLen]; omega) hlen hbase
    exact ⟨v', w', hrun, h2, h3, h5⟩

variable {o : Oper} {a : Act} {K : Act → World → Prop} {Q : Exit → Act → World → Prop}
theorem wp_appS (s x : Operand) (t e : TypeId) (z : Value) (size bytes : Nat) (ho : o.op = .call { callee := .builtin .append, args := #[s, x], argTypes := #[t, t] })
    (ht : P.underlying t = some (.slice e)) (hinfo : (P.info? e).map (fun i => (i.zero, i.size, i.bytes)) = some (some z, size, bytes)) (hz : z.cells.size = size) (hs0 : 0 < size) (hb0 : 0 < bytes)
    (base : Nat) (v : Value) (n : Nat) (xs : List Value) (hs : a.eval s = v) (hown : w.ownsRow base e size v n xs) (B : Nat) (A : Option Addr) (c m : Nat) (ys : List Value) (hx : a.eval x = .slice A m c) (hm : ys.length = m * size) (hr : Holds w B A ys)
    (h1 : ∀ u ∈ ys, u.oneCell' = true) (hlen : (n + m) * bytes ≤ 140737488355328) (hbase : base ≤ w.heap.size)
    (h : ∀ v' w', w'.ownsRow base e size v' (n + m) (xs ++ ys) → w.grownBy w' v.ownBlock → (v'.ownBlock = v.ownBlock ∨ v'.ownBlock = some w.heap.size) → K (a.put o.dst v') w') : o.wp P a w K Q := by
  obtain ⟨v', w', hrun, h2, h3, h4⟩ := run_appS (P := P) w base t o.type e z size bytes ht hinfo hz hs0 hb0 v n xs hown B A c m ys hm hr h1 hlen hbase
  unfold Oper.wp execOp
  simp only [ho, resolve, invoke, builtin, Sem.run_bind, Sem.run_pure, Result.andThen_ok, List.map_toArray, List.map_cons, List.map_nil, hs, hx, hrun]
  exact h v' w' h2 h3 h4
theorem wpList_appS {ops : Array Oper} {rest : List Oper} (hgd : o.guard = none) (s x : Operand) (t e : TypeId) (z : Value) (size bytes : Nat) (ho : o.op = .call { callee := .builtin .append, args := #[s, x], argTypes := #[t, t] })
    (ht : P.underlying t = some (.slice e)) (hinfo : (P.info? e).map (fun i => (i.zero, i.size, i.bytes)) = some (some z, size, bytes)) (hz : z.cells.size = size) (hs0 : 0 < size) (hb0 : 0 < bytes)
    (base : Nat) (v : Value) (n : Nat) (xs : List Value) (hs : a.eval s = v) (hown : w.ownsRow base e size v n xs) (B : Nat) (A : Option Addr) (c m : Nat) (ys : List Value) (hx : a.eval x = .slice A m c) (hm : ys.length = m * size) (hr : Holds w B A ys)
    (h1 : ∀ u ∈ ys, u.oneCell' = true) (hlen : (n + m) * bytes ≤ 140737488355328) (hbase : base ≤ w.heap.size)
    (h : ∀ v' w', w'.ownsRow base e size v' (n + m) (xs ++ ys) → w.grownBy w' v.ownBlock → (v'.ownBlock = v.ownBlock ∨ v'.ownBlock = some w.heap.size) → wpList P ops Q rest (a.put o.dst v') w') : wpList P ops Q (o :: rest) a w :=
  wpList_plain hgd fun _ hK => wp_appS w s x t e z size bytes ho ht hinfo hz hs0 hb0 base v n xs hs hown B A c m ys hx hm hr h1 hlen hbase fun v' w' h2 h3 h4 => hK _ _ (h v' w' h2 h3 h4)
end

theorem own_holdsS {w : World} {base e size n c : Nat} {A : Option Addr} {xs : List Value} (h : w.ownsRow base e size (.slice A n c) n xs) : Holds w w.heap.size A xs ∧ n ≤ c ∧ ∀ ad, A = some ad → base ≤ ad.block := by
  obtain ⟨hl, h⟩ := h
  rcases h with ⟨hv, h0⟩ | ⟨g, cap, cur, hv, hb, hc, hn, hcap, hs, ht⟩
  · injection hv with h1 h2 h3
    subst h1 h2 h3
    exact ⟨fun hx => by simp at hl; rw [hl] at hx; exact absurd hx (by simp), Nat.le_refl _, fun ad had => by cases had⟩
  · injection hv with h1 h2 h3
    subst h1 h3
    refine ⟨fun _ => ⟨⟨g, 0, none⟩, rfl, (Array.getElem?_eq_some_iff.1 hc).1, fun j u hu => ?_⟩, hn, fun ad had => by cases had; exact hb⟩
    rw [add_plain, cell_of_row w g j cur e (0, 0) hc]
    rw [← ht, List.getElem?_take] at hu
    split at hu
    · simpa using hu
    · cases hu
theorem own_ge {w : World} {base e size n : Nat} {v : Value} {xs : List Value} (h : w.ownsRow base e size v n xs) : ∀ q, v.ownBlock = some q → base ≤ q := by
  intro q hq
  rcases h.2 with ⟨rfl, _⟩ | ⟨g, cap, cur, rfl, hb, _⟩
  · cases hq
  · cases hq; exact hb
theorem below_drewN {B : Nat} {a w : World} (h : Below B a w) (n : Nat) : Below B a (w.drewN n) := ⟨h.os, h.tape, h.output, h.size, h.block⟩
end Go.Proofs.YtopbojifllnckaaGreatDoor
namespace Go.Proofs.YtopbojifllnckaaGreatDoor
open Go.RowKit
open Classical

/-- What a part has, and what has been made since. -/
def Grow (S : Nat → Prop) (w w' : World) (k : Nat) : Prop := S k ∨ (w.heap.size ≤ k ∧ k < w'.heap.size)
/-- The blocks' owners behind a call of part i: what is new is that part's. -/
noncomputable def tagG (T : Nat → Nat) (i : Nat) (w w' : World) (k : Nat) : Nat := if w.heap.size ≤ k ∧ k < w'.heap.size then i else T k
/-- Nothing that nobody owned has turned, and nobody owns it yet. -/
structure Goes (T : Nat → Nat) (w : World) (T' : Nat → Nat) (w' : World) : Prop where
  only : Only (fun k => T k ≠ 0) w w'
  free : ∀ k, k < w.heap.size → T k = 0 → T' k = 0
/-- Owners are of blocks that there are. -/
def Fits (T : Nat → Nat) (B : Nat) (w : World) : Prop := B ≤ w.heap.size ∧ ∀ k, T k ≠ 0 → B ≤ k ∧ k < w.heap.size

section
variable {T T' T2 : Nat → Nat} {w w' w2 : World} {i B : Nat} {S : Nat → Prop}
theorem Goes.refl (T : Nat → Nat) (w : World) : Goes T w T w := ⟨Only.refl _ _, fun _ _ h => h⟩
theorem Goes.trans (h : Goes T w T' w') (k : Goes T' w' T2 w2) : Goes T w T2 w2 :=
  ⟨⟨k.only.os.trans h.only.os, k.only.tape.trans h.only.tape, k.only.output.trans h.only.output, Nat.le_trans h.only.size k.only.size, fun j hj hs =>
    (k.only.block j (Nat.lt_of_lt_of_le hj h.only.size) (fun c => c (h.free j hj (Classical.not_not.1 hs)))).trans (h.only.block j hj hs)⟩,
   fun j hj h0 => k.free j (Nat.lt_of_lt_of_le hj h.only.size) (h.free j hj h0)⟩
/-- The world has only become greater (or draws were made): the owners stay. -/
theorem Goes.below (hb : Below w.heap.size w w') : Goes T w T w' := ⟨⟨hb.os, hb.tape, hb.output, hb.size, fun k hk _ => hb.block k hk⟩, fun _ _ h => h⟩
theorem Goes.drewN (h : Goes T w T' w') (n : Nat) : Goes T w T' (w'.drewN n) := ⟨h.only.drewN n, h.free⟩
theorem Goes.part (hi : i ≠ 0) (h : Only (fun k => T k = i) w w') : Goes T w (tagG T i w w') w' :=
  ⟨h.mono fun k hk => by rw [hk]; exact hi, fun k hk h0 => by unfold tagG; rw [if_neg (by omega)]; exact h0⟩
theorem Fits.below (h : Fits T B w) (hb : Below w.heap.size w w') : Fits T B w' := ⟨Nat.le_trans h.1 hb.size, fun k hk => ⟨(h.2 k hk).1, Nat.lt_of_lt_of_le (h.2 k hk).2 hb.size⟩⟩
theorem Fits.part (h : Fits T B w) (hs : w.heap.size ≤ w'.heap.size) : Fits (tagG T i w w') B w' := ⟨Nat.le_trans h.1 hs, fun k hk => by
  unfold tagG at hk
  by_cases c : w.heap.size ≤ k ∧ k < w'.heap.size
  · exact ⟨Nat.le_trans h.1 c.1, c.2⟩
  · rw [if_neg c] at hk
    exact ⟨(h.2 k hk).1, Nat.lt_of_lt_of_le (h.2 k hk).2 hs⟩⟩
theorem Fits.zero (h : Fits T B w) {k : Nat} (hk : w.heap.size ≤ k) : T k = 0 := by
  by_cases c : T k = 0
  · exact c
  · have := (h.2 k c).2; omega
/-- The part's own set behind its call. -/
theorem tagG_own : (fun k => tagG T i w w' k = i) = Grow (fun k => T k = i) w w' ∨ i = 0 := by
  by_cases hi : i = 0
  · exact .inr hi
  refine .inl (funext fun k => propext ?_)
  unfold tagG Grow
  by_cases c : w.heap.size ≤ k ∧ k < w'.heap.size
  · rw [if_pos c]; exact ⟨fun _ => .inr c, fun _ => rfl⟩
  · rw [if_neg c]; exact ⟨.inl, fun h => h.resolve_right c⟩
/-- Another part's set behind it. -/
theorem tagG_other (h : Fits T B w) {j : Nat} (hj : j ≠ i) (h0 : j ≠ 0) : (fun k => tagG T i w w' k = j) = fun k => T k = j := by
  refine funext fun k => propext ?_
  unfold tagG
  by_cases c : w.heap.size ≤ k ∧ k < w'.heap.size
  · rw [if_pos c, h.zero c.1]; exact ⟨fun e => absurd e.symm hj, fun e => absurd e.symm h0⟩
  · rw [if_neg c]
end
end Go.Proofs.YtopbojifllnckaaGreatDoor
namespace Go.Proofs.YtopbojifllnckaaGreatDoor
open Go.RowKit

/-- Bytes as cells. -/
def byc (l : List UInt8) : List Value := l.map fun b => Value.int .u8 b.toNat
theorem byc_length (l : List UInt8) : (byc l).length = l.length := by simp [byc]
theorem byc_append (l m : List UInt8) : byc (l ++ m) = byc l ++ byc m := by simp [byc]
def RowF (w : World) (base : Nat) (e : TypeId) (size : Nat) (v : Value) (n : Nat) (xs : List Value) : Prop :=
  w.ownsRow base e size v n xs ∨ ∃ A, v = .slice (some A) n n ∧ xs.length = n * size ∧ ∀ j u, xs[j]? = some u → w.cell? (A.add j) = some u

theorem below_grown {w w' : World} {base e size n : Nat} {v : Value} {xs : List Value} (h : w.ownsRow base e size v n xs) (hg : w.grownBy w' v.ownBlock) (hb : base ≤ w.heap.size) : Below base w w' :=
  ⟨hg.os, hg.tape, hg.output, hg.size, fun k hk => hg.block k (by omega) fun hq => by
    have := own_ge h k hq.symm
    omega⟩
section
variable {P : Program} (w : World)
theorem run_appF (base : Nat) (t ty e : TypeId) (z : Value) (size bytes : Nat) (ht : P.underlying t = some (.slice e)) (hinfo : (P.info? e).map (fun i => (i.zero, i.size, i.bytes)) = some (some z, size, bytes)) (hz : z.cells.size = size) (hs0 : 0 < size) (hb0 : 0 < bytes)
    (v : Value) (n : Nat) (xs : List Value) (hown : RowF w base e size v n xs) (B : Nat) (A : Option Addr) (c m : Nat) (ys : List Value) (hm : ys.length = m * size) (hm0 : 0 < m) (hr : Holds w B A ys) (h1 : ∀ u ∈ ys, u.oneCell' = true)
    (hlen : (n + m) * bytes ≤ 140737488355328) (hbase : base ≤ w.heap.size) :
    ∃ v' w', (Builtin.append_ #[t, t] ty #[v, .slice A m c]).run P w = .ok v' w' ∧ w'.ownsRow base e size v' (n + m) (xs ++ ys) ∧ Below base w w' := by
  rcases hown with hown | ⟨ad, rfl, hxl, hcs⟩
  · obtain ⟨v', w', h2, h3, h4, _⟩ := run_appS w base t ty e z size bytes ht hinfo hz hs0 hb0 v n xs hown B A c m ys hm hr h1 hlen hbase
    exact ⟨v', w', h2, h3, below_grown hown h4 hbase⟩
  · obtain ⟨i, hi, hzz⟩ := Option.map_eq_some_iff.1 hinfo
    simp only [Prod.mk.injEq] at hzz
    obtain ⟨hz0, hz1, hz2⟩ := hzz
    have hle : n + m ≤ 140737488355328 := Nat.le_trans (Nat.le_mul_of_pos_right _ hb0) hlen
    have hpos : 0 < ys.length := by rw [hm]; exact Nat.mul_pos hm0 hs0
    obtain ⟨ad2, rfl, _, hys⟩ := hr hpos
    have hrun := run_append_grow (P := P) w t ty e i z ht hi hz0 ad n n xs (by rw [hz1]; exact hxl) hcs ad2 m c ys (by rw [hz1]; exact hm) hys (by omega) (by omega) (growslice_fits (by omega) (by rw [hz2]; exact hlen))
    refine ⟨_, _, hrun, ⟨by rw [List.length_append, hxl, hm, Nat.add_mul], .inr ⟨w.heap.size, _, _, rfl, hbase, heap_alloc_new w.drew _, grownCap_ge w (n + m) n e, grownCap_le_maxLen w (n + m) n e (by simp only [maxLen]; omega), ?_, ?_⟩⟩, ⟨rfl, rfl, rfl, by simp, fun k hk => heap_alloc_old w.drew _ (Nat.lt_of_lt_of_le hk hbase)⟩⟩
    · have hge := grownCap_ge w (n + m) n e
      simp only [Array.size_append, List.size_toArray, size_zeroCells, hz, hxl, hm, ← Nat.add_mul]
      congr 1
      omega
    · have hl : (xs ++ ys).length = (n + m) * size := by rw [List.length_append, hxl, hm, Nat.add_mul]
      simp only [Array.toList_append, List.append_assoc]
      rw [← List.append_assoc, ← hl]
      exact List.take_left
variable {o : Oper} {a : Act} {K : Act → World → Prop} {Q : Exit → Act → World → Prop}
theorem wp_appF (s x : Operand) (t e : TypeId) (z : Value) (size bytes : Nat) (ho : o.op = .call { callee := .builtin .append, args := #[s, x], argTypes := #[t, t] })
    (ht : P.underlying t = some (.slice e)) (hinfo : (P.info? e).map (fun i => (i.zero, i.size, i.bytes)) = some (some z, size, bytes)) (hz : z.cells.size = size) (hs0 : 0 < size) (hb0 : 0 < bytes)
    (base : Nat) (v : Value) (n : Nat) (xs : List Value) (hs : a.eval s = v) (hown : RowF w base e size v n xs) (B : Nat) (A : Option Addr) (c m : Nat) (ys : List Value) (hx : a.eval x = .slice A m c) (hm : ys.length = m * size) (hm0 : 0 < m) (hr : Holds w B A ys)
    (h1 : ∀ u ∈ ys, u.oneCell' = true) (hlen : (n + m) * bytes ≤ 140737488355328) (hbase : base ≤ w.heap.size)
    (h : ∀ v' w', w'.ownsRow base e size v' (n + m) (xs ++ ys) → Below base w w' → K (a.put o.dst v') w') : o.wp P a w K Q := by
  obtain ⟨v', w', hrun, h2, h3⟩ := run_appF (P := P) w base t o.type e z size bytes ht hinfo hz hs0 hb0 v n xs hown B A c m ys hm hm0 hr h1 hlen hbase
  unfold Oper.wp execOp
  simp only [ho, resolve, invoke, builtin, Sem.run_bind, Sem.run_pure, Result.andThen_ok, List.map_toArray, List.map_cons, List.map_nil, hs, hx, hrun]
  exact h v' w' h2 h3
theorem wpList_appF {ops : Array Oper} {rest : List Oper} (hgd : o.guard = none) (s x : Operand) (t e : TypeId) (z : Value) (size bytes : Nat) (ho : o.op = .call { callee := .builtin .append, args := #[s, x], argTypes := #[t, t] })
    (ht : P.underlying t = some (.slice e)) (hinfo : (P.info? e).map (fun i => (i.zero, i.size, i.bytes)) = some (some z, size, bytes)) (hz : z.cells.size = size) (hs0 : 0 < size) (hb0 : 0 < bytes)
    (base : Nat) (v : Value) (n : Nat) (xs : List Value) (hs : a.eval s = v) (hown : RowF w base e size v n xs) (B : Nat) (A : Option Addr) (c m : Nat) (ys : List Value) (hx : a.eval x = .slice A m c) (hm : ys.length = m * size) (hm0 : 0 < m) (hr : Holds w B A ys)
    (h1 : ∀ u ∈ ys, u.oneCell' = true) (hlen : (n + m) * bytes ≤ 140737488355328) (hbase : base ≤ w.heap.size)
    (h : ∀ v' w', w'.ownsRow base e size v' (n + m) (xs ++ ys) → Below base w w' → wpList P ops Q rest (a.put o.dst v') w') : wpList P ops Q (o :: rest) a w :=
  wpList_plain hgd fun _ hK => wp_appF w s x t e z size bytes ho ht hinfo hz hs0 hb0 base v n xs hs hown B A c m ys hx hm hm0 hr h1 hlen hbase fun v' w' h2 h3 => hK _ _ (h v' w' h2 h3)
/-- One element more, out of a row that was just built. -/
theorem wpList_app1 {ops : Array Oper} {rest : List Oper} (hgd : o.guard = none) (s x : Operand) (t e : TypeId) (z : Value) (bytes : Nat) (ho : o.op = .call { callee := .builtin .append, args := #[s, x], argTypes := #[t, t] })
    (ht : P.underlying t = some (.slice e)) (hinfo : (P.info? e).map (fun i => (i.zero, i.size, i.bytes)) = some (some z, 1, bytes)) (hz : z.cells.size = 1) (hb0 : 0 < bytes)
    (base : Nat) (v : Value) (n : Nat) (xs : List Value) (hs : a.eval s = v) (hown : RowF w base e 1 v n xs) (u : Value) (hx : a.eval x = .slice (some ⟨w.heap.size, 0, none⟩) 1 1)
    (h1 : u.oneCell' = true) (hlen : (n + 1) * bytes ≤ 140737488355328) (hbase : base ≤ w.heap.size)
    (h : ∀ v' w', w'.ownsRow base e 1 v' (n + 1) (xs ++ [u]) → Below base w w' → wpList P ops Q rest (a.put o.dst v') w') : wpList P ops Q (o :: rest) a (w.alloc (.cells #[u] e)) := by
  refine wpList_appF (w.alloc (.cells #[u] e)) hgd s x t e z 1 bytes ho ht hinfo hz (by omega) hb0 base v n xs hs ?_ (w.heap.size + 1) (some ⟨w.heap.size, 0, none⟩) 1 1 [u] hx rfl (by omega) ?_ (by simpa using h1) hlen (by simp; omega) fun v' w' h2 h3 => h v' w' h2 ?_
  · rcases hown with h | ⟨A, h2, h3, h4⟩
    · exact .inl (h.alloc _)
    · refine .inr ⟨A, h2, h3, fun j y hy => ?_⟩
      have := h4 j y hy
      exact (World.cell?_of_block (w := w) (Below.heap_alloc w _ _ (World.block_lt_of_cell? w _ this))).trans this
  · have := Holds.of_blk (B := w.heap.size + 1) (Blk.new w e #[u]) 0 1 (by omega)
    simpa using this
  · exact ((Below.refl _ _).alloc hbase _).trans h3
end
end Go.Proofs.YtopbojifllnckaaGreatDoor
