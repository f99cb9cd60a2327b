/- Put. -/
import Derived.Test.YtehdclfmkeemgaaGet
namespace Go.Proofs.Ytehdclfmkeemgaa
open Go.RowKit
attribute [local irreducible] wpQuiet

theorem wpList_put {w : World} {ops : Array Oper} {rest : List Oper} {o : Oper} {a : Act} {Q : Exit → Act → World → Prop} (hg : o.guard = none) (m x v : Operand) (hop : o.op = Op.mapUpdate 55 m x v)
    (b n : Nat) (f : Int → Option Nat) (hm : a.eval m = .map (some b)) (hown : MapAt w b n f) (hn : n < maxLen) (key : Int) (hx : a.eval x = .int .i64 key) (hkey : (Lit.int .i64 key).wf = true) (g : Nat) (hv : a.eval v = .pointer (some ⟨g, 0, none⟩))
    (hK : ∀ w', MapAt w' b (n + 1) (fun y => if y = key then some g else f y) → w.grownBy w' (some b) → wpList Try.prog ops Q rest (a.put o.dst undef) w') :
    wpList Try.prog ops Q (o :: rest) a w := by
  refine wpList_plain hg fun K' hK' => ?_
  obtain ⟨w', hrun, r1, r2⟩ := hown.put (g := g) hkey hn
  unfold Oper.wp
  simp [execOp, hop, hm, hx, hv, hrun, Result.andThen]
  exact hK' _ _ (hK w' r1 r2)

theorem LruAt.keep {w w' : World} {B br M N bm c : Nat} {A : Option Addr} {L : List Ent} (h : LruAt w B br M N L bm A c) (h1 : w'.heap[br]? = w.heap[br]?) (h2 : w'.heap[bm]? = w.heap[bm]?) (h3 : ∀ e ∈ L, w'.heap[e.g]? = w.heap[e.g]?)
    (h4 : ∀ ad, A = some ad → w'.heap[ad.block]? = w.heap[ad.block]?) : LruAt w' B br M N L bm A c := by
  refine ⟨h1.trans h.blk, h.map.keep h2, fun e he => (h3 e he).trans (h.ent e he), ?_, h.nodup, h.gs, h.wf, h.base⟩
  obtain ⟨hl, hr⟩ := h.row
  rcases hr with hr | ⟨g, cap, cur, hv, hb, hc, hr⟩
  · exact ⟨hl, .inl hr⟩
  · cases hv
    exact ⟨hl, .inr ⟨g, c, cur, rfl, hb, (h4 _ rfl).trans hc, hr⟩⟩

/-! ### what Put does, in plain words -/
def looseI (L : List Ent) : Option Nat := L.findIdx? fun e => !e.p
def evictL (M n : Nat) : Nat → List Ent → List Ent × List Int
  | 0, L => (L, [])
  | k + 1, L => if M < total L + n then (match looseI L with
    | some i => ((evictL M n k (L.eraseIdx i)).1, ((L[i]?.map Ent.key).getD 0) :: (evictL M n k (L.eraseIdx i)).2)
    | none => (L, [])) else (L, [])
theorem loose_some {L : List Ent} {i : Nat} (h : looseI L = some i) : ∃ e, L[i]? = some e ∧ e.p = false ∧ ∀ (j : Nat) (e' : Ent), j < i → L[j]? = some e' → e'.p = true := by
  unfold looseI at h
  obtain ⟨hi, hp, hj⟩ := List.findIdx?_eq_some_iff_getElem.1 h
  refine ⟨L[i], List.getElem?_eq_getElem hi, by simpa using hp, fun j e' hji he' => ?_⟩
  have hjl : j < L.length := by omega
  rw [List.getElem?_eq_getElem hjl] at he'
  have := hj j hji
  rw [← Option.some.inj he']
  simpa using this
theorem loose_none {L : List Ent} (h : looseI L = none) : ∀ (j : Nat) (e' : Ent), L[j]? = some e' → e'.p = true := by
  intro j e' he'
  unfold looseI at h
  have := List.findIdx?_eq_none_iff.1 h e' (List.mem_of_getElem? he')
  simpa using this

def goneL (L : List Ent) (x : Int) : List Ent := match L.findIdx? (fun e => e.key == x) with
  | some i => L.eraseIdx i
  | none => L
theorem goneL_none {L : List Ent} {x : Int} (h : L.findIdx? (fun e => e.key == x) = none) : look L x = none ∧ goneL L x = L := by
  refine ⟨?_, by unfold goneL; rw [h]⟩
  unfold look
  rw [List.find?_eq_none.2 (fun z hz => by have := List.findIdx?_eq_none_iff.1 h z hz; simpa using this)]
  rfl
theorem goneL_some {L : List Ent} {x : Int} {i : Nat} (h : L.findIdx? (fun e => e.key == x) = some i) : ∃ e, L[i]? = some e ∧ e.key = x ∧ goneL L x = L.eraseIdx i := by
  obtain ⟨hi, hp, _⟩ := List.findIdx?_eq_some_iff_getElem.1 h
  exact ⟨L[i], List.getElem?_eq_getElem hi, by simpa using hp, by unfold goneL; rw [h]⟩
theorem goneL_sub (L : List Ent) (x : Int) : (goneL L x).Sublist L := by
  unfold goneL
  split
  · exact List.eraseIdx_sublist _ _
  · exact List.Sublist.refl _
theorem total_sub {K L : List Ent} (h : K.Sublist L) : total K ≤ total L := by
  unfold total
  induction h with
  | slnil => simp
  | cons a _ ih => simp only [List.map_cons, List.sum_cons]; omega
  | cons_cons a _ ih => simp only [List.map_cons, List.sum_cons]; omega
theorem goneL_not {L : List Ent} (hn : (keysL L).Nodup) (x : Int) : ∀ e ∈ goneL L x, e.key ≠ x := by
  cases h : L.findIdx? (fun e => e.key == x) with
  | none =>
    rw [(goneL_none h).2]
    intro e he
    have := List.findIdx?_eq_none_iff.1 h e he
    simpa using this
  | some i =>
    obtain ⟨e, he, hk, hg⟩ := goneL_some h
    rw [hg]
    intro e' he' hx
    have h1 := look_erase hn he x
    rw [if_pos hk.symm] at h1
    obtain ⟨j, hj, rfl⟩ := List.getElem_of_mem he'
    have h2 := look_at (L := L.eraseIdx i) (by rw [keys_erase]; exact hn.sublist (List.eraseIdx_sublist _ _)) (List.getElem?_eq_getElem hj)
    rw [hx, h1] at h2
    cases h2

section
variable {w : World} {B br M N bm c : Nat} {A : Option Addr} {L : List Ent}
theorem gone_any (h : Hid (LruAt w B br M N L bm A c)) {x : Int} (hx : (Lit.int .i64 x).wf = true) (ht : total L ≤ 9223372036854775807) :
    Calls Try.prog 28 #[.pointer (some ⟨br, 0, none⟩), .int .i64 x] w fun r w' => r = .returned (.bool (look L x).isSome) ∧ LruAt w' B br M N (goneL L x) bm A c ∧ Below B w w' ∧ KeptBut w w' br bm A := by
  cases hf : L.findIdx? (fun e => e.key == x) with
  | none =>
    obtain ⟨h1, h2⟩ := goneL_none hf
    refine (gone_no h hx h1).mono ?_
    rintro r w' ⟨rfl, rfl⟩
    rw [h1, h2]
    exact ⟨rfl, h.out, Below.refl _ _, KeptBut.refl _ _ _ _⟩
  | some i =>
    obtain ⟨e, he, hk, hg⟩ := goneL_some hf
    subst hk
    refine (gone_yes h he ht).mono ?_
    rintro r w' ⟨rfl, h1, h2, h3⟩
    rw [look_at h.out.nodup he, hg]
    exact ⟨rfl, h1, h2, h3⟩
end

end Go.Proofs.Ytehdclfmkeemgaa
