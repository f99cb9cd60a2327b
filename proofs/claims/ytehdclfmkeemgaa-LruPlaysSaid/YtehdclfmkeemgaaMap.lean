/- A map from numbers to blocks (pointers to entries), said as a function. -/
import Derived.Test.YtehdclfmkeemgaaInts
import Derived.Maps.OwnSet
import Derived.Maps.Views
namespace Go.Proofs.Ytehdclfmkeemgaa
open Go.RowKit

/-- How a pointer in the map reads: as the number of its block. -/
def ptrE : Value → Option (DataW Unit × List MemPlace)
  | .pointer none => some (.nil, [])
  | .pointer (some ⟨g, 0, none⟩) => some (.lit (.int .i64 g), [])
  | _ => none
theorem ptrE_inv {v : Value} {g : Nat} {ps : List MemPlace} (h : ptrE v = some (.lit (.int .i64 g), ps)) : v = .pointer (some ⟨g, 0, none⟩) := by
  unfold ptrE at h
  split at h
  · cases h
  · simp only [Option.some.injEq, Prod.mk.injEq, DataW.lit.injEq, Lit.int.injEq] at h
    obtain ⟨⟨_, h⟩, _⟩ := h
    rw [Int.ofNat.inj h]
  · cases h
theorem ptrE_nil {v : Value} {ps : List MemPlace} (h : ptrE v = some (.nil, ps)) : v = .pointer none := by
  unfold ptrE at h
  split at h
  · rfl
  · cases h
  · cases h
theorem keyed : Maps.Keyed Try.prog 3 := Maps.int_keyed Try.underlying3
def ptrOf : Option Nat → Value
  | none => .pointer none
  | some g => .pointer (some ⟨g, 0, none⟩)
def dOf : Option Nat → DataW Unit
  | none => .nil
  | some g => .lit (.int .i64 g)
/-- Block b is a map of at most n entries; at key it has block (f key), or nothing. -/
def MapAt (w : World) (b n : Nat) (f : Int → Option Nat) : Prop :=
  ∃ D : DataW Unit, w.ownsMap Try.prog 3 ptrE b n D ∧ Maps.IsMap D ∧ ∀ key, (Lit.int .i64 key).wf = true → Maps.has D (.int .i64 key) = (f key).isSome ∧ D.atKey (.int .i64 key) .nil = dOf (f key)
theorem wf_key {x : Int} (h : (Lit.int .i64 x).wf = true) : keyOf Try.prog 3 (.int .i64 x) = some (.int .i64 x) := Maps.keyOf_int_mk Try.underlying3 h
theorem zero63 (w : World) : (zeroValue 63).run Try.prog w = .ok (.pointer none) w := by kernel_rfl
theorem ptrOf_of {v : Value} {ps : List MemPlace} {o : Option Nat} (h : ptrE v = some (dOf o, ps)) : v = ptrOf o := by
  cases o with
  | none => exact ptrE_nil h
  | some g => exact ptrE_inv h
section
variable {w w' : World} {b n : Nat} {f : Int → Option Nat}
theorem MapAt.look (h : MapAt w b n f) {x : Int} (hx : (Lit.int .i64 x).wf = true) : (Instr.lookup 55 (.map (some b)) (.int .i64 x) true).run Try.prog w = .ok (.tuple #[ptrOf (f x), .bool (f x).isSome]) w := by
  obtain ⟨D, ho, _, hf⟩ := h
  obtain ⟨h1, h2⟩ := hf x hx
  obtain ⟨v, ps, hr, hv⟩ := ho.look_ok (zd := .nil) (zp := []) keyed Try.underlying55 (zero63 w) rfl (wf_key hx)
  rw [h2] at hv
  rw [hr, ptrOf_of hv, h1]
theorem MapAt.look1 (h : MapAt w b n f) {x : Int} (hx : (Lit.int .i64 x).wf = true) : (Instr.lookup 55 (.map (some b)) (.int .i64 x) false).run Try.prog w = .ok (ptrOf (f x)) w := by
  obtain ⟨D, ho, _, hf⟩ := h
  obtain ⟨h1, h2⟩ := hf x hx
  obtain ⟨v, ps, hr, hv⟩ := ho.lookup (zd := .nil) (zp := []) keyed Try.underlying55 (zero63 w) rfl (wf_key hx)
  rw [h2] at hv
  rw [hr, ptrOf_of hv]
theorem MapAt.put (h : MapAt w b n f) {x : Int} {g : Nat} (hx : (Lit.int .i64 x).wf = true) (hn : n < maxLen) :
    ∃ w', (Instr.mapUpdate 55 (.map (some b)) (.int .i64 x) (.pointer (some ⟨g, 0, none⟩))).run Try.prog w = .ok () w' ∧ MapAt w' b (n + 1) (fun y => if y = x then some g else f y) ∧ w.grownBy w' (some b) := by
  obtain ⟨D, ho, hm, hf⟩ := h
  obtain ⟨w', hr, ho', hg⟩ := ho.update (val := .pointer (some ⟨g, 0, none⟩)) (d := .lit (.int .i64 g)) (ps := []) keyed Try.underlying55 hn (wf_key hx) rfl
  refine ⟨w', hr, ⟨_, ho', hm.put _ _, fun y hy => ?_⟩, hg⟩
  by_cases e : y = x
  · subst e
    simp only [↓reduceIte]
    exact ⟨Maps.has_put_same hm (show WideAt.IsKeyLit (.int .i64 y) from trivial) _, Maps.atKey_put_same hm (show WideAt.IsKeyLit (.int .i64 y) from trivial) _ _⟩
  · simp only [if_neg e]
    have hne : Lit.int .i64 y ≠ Lit.int .i64 x := fun h => e (by injection h)
    rw [Maps.has_put_other hne, Maps.atKey_put_other hne]
    exact hf y hy
theorem MapAt.del (h : MapAt w b n f) {x : Int} (hx : (Lit.int .i64 x).wf = true) (ty : TypeId) :
    ∃ w', (Builtin.delete_ #[55, 3] ty #[.map (some b), .int .i64 x]).run Try.prog w = .ok (.tuple #[]) w' ∧ MapAt w' b n (fun y => if y = x then none else f y) ∧ w.mapTurned w' b := by
  obtain ⟨D, ho, hm, hf⟩ := h
  obtain ⟨w', hr, ho', hg⟩ := ho.drop keyed Try.underlying55 (wf_key hx) ty
  refine ⟨w', hr, ⟨_, ho', hm.del _, fun y hy => ?_⟩, hg⟩
  by_cases e : y = x
  · subst e
    simp only [↓reduceIte]
    exact ⟨Maps.has_del_same, Maps.atKey_del_same _⟩
  · simp only [if_neg e]
    have hne : Lit.int .i64 y ≠ Lit.int .i64 x := fun h => e (by injection h)
    rw [Maps.has_del_other hne, Maps.atKey_del_other hne]
    exact hf y hy
theorem MapAt.new (w : World) : MapAt (w.alloc (.map #[] 0)) w.heap.size 0 (fun _ => none) :=
  ⟨_, World.ownsMap_made w Try.prog 3 ptrE, Maps.isMap_empty, fun _ _ => ⟨rfl, rfl⟩⟩
theorem MapAt.keep (h : MapAt w b n f) (hk : w'.heap[b]? = w.heap[b]?) : MapAt w' b n f := by
  obtain ⟨D, ⟨es, clock, hb, hr⟩, h2⟩ := h
  exact ⟨D, ⟨es, clock, hk.trans hb, hr⟩, h2⟩
theorem MapAt.lt (h : MapAt w b n f) : b < w.heap.size := by obtain ⟨D, ho, _⟩ := h; exact ho.lt
theorem MapAt.more (h : MapAt w b n f) {m : Nat} (hm : n ≤ m) : MapAt w b m f := by obtain ⟨D, ho, h2⟩ := h; exact ⟨D, ho.mono hm, h2⟩
end
end Go.Proofs.Ytehdclfmkeemgaa
