/- append onto a row of the call's own, of elements of any number of cells. -/
import Derived.Test.YtehdclfmkeemgaaBound
namespace Go.Proofs.Ytehdclfmkeemgaa
open Go.RowKit

section
variable {P : Program} (w : World)
theorem run_appS (base : Nat) (t ty e : TypeId) (z : Value) (size bytes : Nat) (ht : P.underlying t = some (.slice e)) (hinfo : (P.info? e).map (fun i => (i.zero, i.size, i.bytes)) = some (some z, size, bytes)) (hz : z.cells.size = size) (hs0 : 0 < size) (hb0 : 0 < bytes)
    (v : Value) (n : Nat) (xs : List Value) (hown : w.ownsRow base e size v n xs) (B : Nat) (A : Option Addr) (c m : Nat) (ys : List Value) (hm : ys.length = m * size) (hr : Holds w B A ys) (h1 : ∀ u ∈ ys, u.oneCell' = true)
    (hlen : (n + m) * bytes ≤ 140737488355328) (hbase : base ≤ w.heap.size) :
    ∃ v' w', (Builtin.append_ #[t, t] ty #[v, .slice A m c]).run P w = .ok v' w' ∧ w'.ownsRow base e size v' (n + m) (xs ++ ys) ∧ w.grownBy w' v.ownBlock ∧
      (v'.ownBlock = v.ownBlock ∨ v'.ownBlock = some w.heap.size) := by
  obtain ⟨i, hi, hzz⟩ := Option.map_eq_some_iff.1 hinfo
  simp only [Prod.mk.injEq] at hzz
  obtain ⟨hz0, hz1, hz2⟩ := hzz
  have hle : n + m ≤ 140737488355328 := Nat.le_trans (Nat.le_mul_of_pos_right _ hb0) hlen
  rcases A with _ | ad
  · have hy : ys = [] := by
      rcases Nat.eq_zero_or_pos ys.length with h0 | h0
      · exact List.eq_nil_of_length_eq_zero h0
      · obtain ⟨ad, h, _⟩ := hr h0
        cases h
    subst hy
    obtain rfl : m = 0 := by
      rcases Nat.eq_zero_or_pos m with h | h
      · exact h
      · have := Nat.mul_pos h hs0; simp at hm; omega
    refine ⟨v, w, ?_, by simpa using hown, World.grownBy.refl w _, .inl rfl⟩
    rcases hown.2 with ⟨rfl, rfl⟩ | ⟨g, cap, cur, rfl, _, _, hnc, _⟩
    · simp [Builtin.append_, run_underlying ht, sizeOf, typeInfo, hi, Builtin.lenOf, Builtin.firstCells]
    · simp [Builtin.append_, run_underlying ht, sizeOf, typeInfo, hi, Builtin.lenOf, Builtin.firstCells, hnc, storeCells]
  · have hcells : ∀ j u, ys[j]? = some u → w.cell? (ad.add j) = some u := by
      intro j u hu
      have hj : 0 < ys.length := by
        rcases Nat.eq_zero_or_pos ys.length with h0 | h0
        · rw [List.eq_nil_of_length_eq_zero h0] at hu; simp at hu
        · exact h0
      obtain ⟨ad', h, _, hc⟩ := hr hj
      injection h with h
      subst h
      exact hc j u hu
    obtain ⟨v', w', hrun, h2, h3, _, h5⟩ := run_append_own_at (P := P) w base t ty e i z size bytes ht hi hz0 hz1 hz2 hz hs0 v n xs hown ad m c ys hm hcells h1 (by simp only [maxLen]; omega) hlen hbase
    exact ⟨v', w', hrun, h2, h3, h5⟩

variable {o : Oper} {a : Act} {K : Act → World → Prop} {Q : Exit → Act → World → Prop}
theorem wp_appS (s x : Operand) (t e : TypeId) (z : Value) (size bytes : Nat) (ho : o.op = .call { callee := .builtin .append, args := #[s, x], argTypes := #[t, t] })
    (ht : P.underlying t = some (.slice e)) (hinfo : (P.info? e).map (fun i => (i.zero, i.size, i.bytes)) = some (some z, size, bytes)) (hz : z.cells.size = size) (hs0 : 0 < size) (hb0 : 0 < bytes)
    (base : Nat) (v : Value) (n : Nat) (xs : List Value) (hs : a.eval s = v) (hown : w.ownsRow base e size v n xs) (B : Nat) (A : Option Addr) (c m : Nat) (ys : List Value) (hx : a.eval x = .slice A m c) (hm : ys.length = m * size) (hr : Holds w B A ys)
    (h1 : ∀ u ∈ ys, u.oneCell' = true) (hlen : (n + m) * bytes ≤ 140737488355328) (hbase : base ≤ w.heap.size)
    (h : ∀ v' w', w'.ownsRow base e size v' (n + m) (xs ++ ys) → w.grownBy w' v.ownBlock → (v'.ownBlock = v.ownBlock ∨ v'.ownBlock = some w.heap.size) → K (a.put o.dst v') w') : o.wp P a w K Q := by
  obtain ⟨v', w', hrun, h2, h3, h4⟩ := run_appS (P := P) w base t o.type e z size bytes ht hinfo hz hs0 hb0 v n xs hown B A c m ys hm hr h1 hlen hbase
  unfold Oper.wp execOp
  simp only [ho, resolve, invoke, builtin, Sem.run_bind, Sem.run_pure, Result.andThen_ok, List.map_toArray, List.map_cons, List.map_nil, hs, hx, hrun]
  exact h v' w' h2 h3 h4
theorem wpList_appS {ops : Array Oper} {rest : List Oper} (hgd : o.guard = none) (s x : Operand) (t e : TypeId) (z : Value) (size bytes : Nat) (ho : o.op = .call { callee := .builtin .append, args := #[s, x], argTypes := #[t, t] })
    (ht : P.underlying t = some (.slice e)) (hinfo : (P.info? e).map (fun i => (i.zero, i.size, i.bytes)) = some (some z, size, bytes)) (hz : z.cells.size = size) (hs0 : 0 < size) (hb0 : 0 < bytes)
    (base : Nat) (v : Value) (n : Nat) (xs : List Value) (hs : a.eval s = v) (hown : w.ownsRow base e size v n xs) (B : Nat) (A : Option Addr) (c m : Nat) (ys : List Value) (hx : a.eval x = .slice A m c) (hm : ys.length = m * size) (hr : Holds w B A ys)
    (h1 : ∀ u ∈ ys, u.oneCell' = true) (hlen : (n + m) * bytes ≤ 140737488355328) (hbase : base ≤ w.heap.size)
    (h : ∀ v' w', w'.ownsRow base e size v' (n + m) (xs ++ ys) → w.grownBy w' v.ownBlock → (v'.ownBlock = v.ownBlock ∨ v'.ownBlock = some w.heap.size) → wpList P ops Q rest (a.put o.dst v') w') : wpList P ops Q (o :: rest) a w :=
  wpList_plain hgd fun _ hK => wp_appS w s x t e z size bytes ho ht hinfo hz hs0 hb0 base v n xs hs hown B A c m ys hx hm hr h1 hlen hbase fun v' w' h2 h3 h4 => hK _ _ (h v' w' h2 h3 h4)
theorem step_appS {ops : Array Oper} {E : Prop} (hgd : o.guard = none) (s x : Operand) (t e : TypeId) (z : Value) (size bytes : Nat) (ho : o.op = .call { callee := .builtin .append, args := #[s, x], argTypes := #[t, t] })
    (ht : P.underlying t = some (.slice e)) (hinfo : (P.info? e).map (fun i => (i.zero, i.size, i.bytes)) = some (some z, size, bytes)) (hz : z.cells.size = size) (hs0 : 0 < size) (hb0 : 0 < bytes)
    (base : Nat) (v : Value) (n : Nat) (xs : List Value) (hs : a.eval s = v) (hown : w.ownsRow base e size v n xs) (B : Nat) (A : Option Addr) (c m : Nat) (ys : List Value) (hx : a.eval x = .slice A m c) (hm : ys.length = m * size) (hr : Holds w B A ys)
    (h1 : ∀ u ∈ ys, u.oneCell' = true) (hlen : (n + m) * bytes ≤ 140737488355328) (hbase : base ≤ w.heap.size)
    (h : ∀ v' w', w'.ownsRow base e size v' (n + m) (xs ++ ys) → w.grownBy w' v.ownBlock → (v'.ownBlock = v.ownBlock ∨ v'.ownBlock = some w.heap.size) → K (a.put o.dst v') w') :
    if Region.wanted o (yielded ops a.tmps) = true then Oper.wp P o a w K Q else E := by
  have hw : Region.wanted o (yielded ops a.tmps) = true := by simp [Region.wanted, hgd]
  rw [if_pos hw]
  exact wp_appS w s x t e z size bytes ho ht hinfo hz hs0 hb0 base v n xs hs hown B A c m ys hx hm hr h1 hlen hbase h
end

/-! ### the reference's rows: three cells an element -/
def ecs (L : List Ent) : List Value := L.flatMap fun e => [Value.int .i64 e.key, Value.string e.v, Value.bool e.p]
theorem ecs_length (L : List Ent) : (ecs L).length = L.length * 3 := by
  induction L with
  | nil => rfl
  | cons a L ih => simp only [ecs, List.flatMap_cons, List.length_append, List.length_cons, List.length_nil] at ih ⊢; omega
theorem ecs_append (L M : List Ent) : ecs (L ++ M) = ecs L ++ ecs M := by simp [ecs]
theorem ecs_one (L : List Ent) : ∀ u ∈ ecs L, u.oneCell' = true := by
  intro u hu
  simp only [ecs, List.mem_flatMap, List.mem_cons, List.not_mem_nil, or_false] at hu
  obtain ⟨e, _, rfl | rfl | rfl⟩ := hu <;> rfl
theorem ecs_get (L : List Ent) {i : Nat} {e : Ent} (he : L[i]? = some e) : (ecs L)[i * 3]? = some (.int .i64 e.key) ∧ (ecs L)[i * 3 + 1]? = some (.string e.v) ∧ (ecs L)[i * 3 + 2]? = some (.bool e.p) := by
  induction L generalizing i with
  | nil => simp at he
  | cons a L ih =>
    have hc : ecs (a :: L) = [Value.int .i64 a.key, Value.string a.v, Value.bool a.p] ++ ecs L := rfl
    cases i with
    | zero =>
      simp only [List.getElem?_cons_zero, Option.some.injEq] at he
      subst he
      exact ⟨rfl, rfl, rfl⟩
    | succ i =>
      simp only [List.getElem?_cons_succ] at he
      obtain ⟨h0, h1, h2⟩ := ih he
      rw [hc]
      refine ⟨?_, ?_, ?_⟩
      · rw [List.getElem?_append_right (by simp; omega)]
        simpa [show (i + 1) * 3 - 3 = i * 3 by omega] using h0
      · rw [List.getElem?_append_right (by simp; omega)]
        simpa [show (i + 1) * 3 + 1 - 3 = i * 3 + 1 by omega] using h1
      · rw [List.getElem?_append_right (by simp; omega)]
        simpa [show (i + 1) * 3 + 2 - 3 = i * 3 + 2 by omega] using h2
theorem ecs_take (L : List Ent) (i : Nat) : ecs (L.take i) = (ecs L).take (i * 3) := by
  induction L generalizing i with
  | nil => simp [ecs]
  | cons a L ih =>
    have hc : ∀ M : List Ent, ecs (a :: M) = [Value.int .i64 a.key, Value.string a.v, Value.bool a.p] ++ ecs M := fun _ => rfl
    cases i with
    | zero => simp [ecs]
    | succ i =>
      rw [List.take_succ_cons, hc, hc, ih, show (i + 1) * 3 = i * 3 + 1 + 1 + 1 by omega]
      simp
theorem ecs_drop (L : List Ent) (i : Nat) : ecs (L.drop i) = (ecs L).drop (i * 3) := by
  induction L generalizing i with
  | nil => simp [ecs]
  | cons a L ih =>
    have hc : ∀ M : List Ent, ecs (a :: M) = [Value.int .i64 a.key, Value.string a.v, Value.bool a.p] ++ ecs M := fun _ => rfl
    cases i with
    | zero => simp
    | succ i =>
      rw [List.drop_succ_cons, hc, ih, show (i + 1) * 3 = i * 3 + 1 + 1 + 1 by omega]
      simp

/-- A slice at A reads the entries L (three cells an element). -/
theorem ent_at {w : World} {B : Nat} {A : Option Addr} {L : List Ent} (h : Holds w B A (ecs L)) {i : Nat} {e : Ent} (he : L[i]? = some e) :
    ∃ ad, A = some ad ∧ (ad.add (i * 3)).block < B ∧ w.cell? (ad.add (i * 3)) = some (.int .i64 e.key) ∧ w.cell? ⟨(ad.add (i * 3)).block, (ad.add (i * 3)).off + 1, none⟩ = some (.string e.v) ∧ w.cell? ⟨(ad.add (i * 3)).block, (ad.add (i * 3)).off + 2, none⟩ = some (.bool e.p) := by
  have hi : i < L.length := (List.getElem?_eq_some_iff.1 he).1
  obtain ⟨ad, rfl, hb, hc⟩ := h (by rw [ecs_length]; omega)
  obtain ⟨h0, h1, h2⟩ := ecs_get L he
  refine ⟨ad, rfl, by rw [block_add]; exact hb, hc _ _ h0, ?_, ?_⟩
  · have := hc _ _ h1
    rw [← Go.Deep.add_add, add_fld ad (i * 3) 1 (by omega)] at this
    exact this
  · have := hc _ _ h2
    rw [← Go.Deep.add_add, add_fld ad (i * 3) 2 (by omega)] at this
    exact this
end Go.Proofs.Ytehdclfmkeemgaa
