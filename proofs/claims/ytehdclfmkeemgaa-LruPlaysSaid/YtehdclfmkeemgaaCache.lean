/- The cache as a whole: each of its functions by one contract, that says which blocks are the cache's own. -/
import Derived.Test.YtehdclfmkeemgaaPut2
namespace Go.Proofs.Ytehdclfmkeemgaa
open Go.RowKit
attribute [local irreducible] wpQuiet

/-! ### plain words -/
def getL (L : List Ent) (x : Int) : List Ent := match L.findIdx? (fun e => e.key == x) with
  | some i => L.eraseIdx i ++ (L[i]?).toList
  | none => L
def getV (L : List Ent) (x : Int) : ByteArray := ((L.find? fun e => e.key == x).map Ent.v).getD ⟨#[]⟩
def setP (L : List Ent) (x : Int) (b : Bool) : List Ent := L.map fun e => if e.key = x then { e with p := b } else e
theorem find_at {L : List Ent} (hn : (keysL L).Nodup) {i : Nat} {e : Ent} (he : L[i]? = some e) : (L.find? fun z => z.key == e.key) = some e := by
  have h := look_at hn he
  unfold look at h
  cases hf : L.find? fun z => z.key == e.key with
  | none => rw [hf] at h; cases h
  | some z =>
    have hz : z ∈ L := List.mem_of_find?_eq_some hf
    have hk : z.key = e.key := by simpa using List.find?_some hf
    obtain ⟨j, hj, rfl⟩ := List.getElem_of_mem hz
    have hi : i < L.length := (List.getElem?_eq_some_iff.1 he).1
    have h1 : (keysL L)[j]'(by simpa [keysL] using hj) = (keysL L)[i]'(by simpa [keysL] using hi) := by
      have : L[i] = e := by rw [List.getElem?_eq_getElem hi] at he; exact Option.some.inj he
      simp [keysL, hk, this]
    have h2 := (List.getElem_inj hn).1 h1
    subst h2
    rw [List.getElem?_eq_getElem hj] at he
    exact he
theorem setP_none {L : List Ent} {x : Int} (h : L.findIdx? (fun e => e.key == x) = none) (b : Bool) : setP L x b = L := by
  unfold setP
  refine (List.map_congr_left fun e he => ?_).trans (List.map_id L)
  have := List.findIdx?_eq_none_iff.1 h e he
  rw [if_neg (by simpa using this)]
  rfl
theorem setP_some {L : List Ent} (hn : (keysL L).Nodup) {i : Nat} {e : Ent} (he : L[i]? = some e) (b : Bool) : setP L e.key b = pinL L i e b := by
  have hi : i < L.length := (List.getElem?_eq_some_iff.1 he).1
  have hei : L[i] = e := by rw [List.getElem?_eq_getElem hi] at he; exact Option.some.inj he
  unfold setP pinL
  refine List.ext_getElem (by simp) fun j h1 h2 => ?_
  rw [List.getElem_map, List.getElem_set]
  have hj : j < L.length := by simpa using h1
  by_cases hij : i = j
  · subst hij
    rw [if_pos rfl, hei, if_pos rfl]
  · rw [if_neg hij, if_neg]
    intro hk
    have h3 : (keysL L)[j]'(by simpa [keysL] using hj) = (keysL L)[i]'(by simpa [keysL] using hi) := by simp [keysL, hk, hei]
    exact hij ((List.getElem_inj hn).1 h3).symm
theorem evictL_sub (M n : Nat) : ∀ (k : Nat) (L : List Ent), (evictL M n k L).1.Sublist L := by
  intro k
  induction k with
  | zero => intro L; exact List.Sublist.refl _
  | succ k ih =>
    intro L
    unfold evictL
    split
    · split
      · exact (ih _).trans (List.eraseIdx_sublist _ _)
      · exact List.Sublist.refl _
    · exact List.Sublist.refl _
theorem putL_mem {M : Nat} {L : List Ent} {x : Int} {v : ByteArray} {g : Nat} : ∀ e ∈ (putL M L x v g).1, e ∈ L ∨ e.g = g := by
  intro e he
  unfold putL at he
  have h1 := goneL_sub L x
  have h2 := (evictL_sub M v.size (goneL L x).length (goneL L x)).trans h1
  split at he
  · exact .inl (h1.mem he)
  · split at he
    · exact .inl (h2.mem he)
    · rcases List.mem_append.1 he with he | he
      · exact .inl (h2.mem he)
      · obtain rfl := List.mem_singleton.1 he
        exact .inr rfl
theorem putL_len (M : Nat) (L : List Ent) (x : Int) (v : ByteArray) (g : Nat) : (putL M L x v g).1.length ≤ L.length + 1 := by
  unfold putL
  have h1 := (goneL_sub L x).length_le
  have h2 := (evictL_sub M v.size (goneL L x).length (goneL L x)).length_le
  split
  · simp; omega
  · split
    · omega
    · simp; omega
theorem putL_total (M : Nat) (L : List Ent) (x : Int) (v : ByteArray) (g : Nat) (h : total L ≤ M) : total (putL M L x v g).1 ≤ M := by
  unfold putL
  have h1 := total_sub (goneL_sub L x)
  have h2 := total_sub (evictL_sub M v.size (goneL L x).length (goneL L x))
  split
  · simp; omega
  · split
    · omega
    · simp only [total, List.map_append, List.map_cons, List.map_nil, List.sum_append, List.sum_cons, List.sum_nil] at *
      omega
theorem getL_perm (L : List Ent) (x : Int) : (getL L x).Perm L := by
  unfold getL
  split
  · rename_i i hi
    obtain ⟨hlt, _⟩ := List.findIdx?_eq_some_iff_getElem.1 hi
    rw [List.getElem?_eq_getElem hlt]
    exact erase_perm (List.getElem?_eq_getElem hlt)
  · exact List.Perm.refl _
theorem setP_total (L : List Ent) (x : Int) (b : Bool) : total (setP L x b) = total L := by
  unfold total setP
  rw [List.map_map]
  congr 1
  refine List.map_congr_left fun e _ => ?_
  simp only [Function.comp]
  split <;> rfl

/-! ### the cache's own blocks -/
def Mine (br bm : Nat) (A : Option Addr) (L : List Ent) (k : Nat) : Prop := k = br ∨ k = bm ∨ (∃ e ∈ L, k = e.g) ∨ ∃ ad, A = some ad ∧ k = ad.block
def CacheAt (w : World) (B br M n : Nat) (S : Nat → Prop) (L : List Ent) : Prop :=
  ∃ bm A c, LruAt w B br M n L bm A c ∧ (∀ k, S k ↔ Mine br bm A L k) ∧ total L ≤ M ∧ L.length ≤ n
def Stepped (w w' : World) (B br M n : Nat) (S : Nat → Prop) (L : List Ent) : Prop :=
  ∃ S', CacheAt w' B br M n S' L ∧ (∀ k, S' k → S k ∨ w.heap.size ≤ k) ∧ Only S w w'

section
variable {w w' : World} {B br M n : Nat} {S : Nat → Prop} {L : List Ent}
theorem LruAt.row_lt {N bm c : Nat} {A : Option Addr} (h : LruAt w B br M N L bm A c) : ∀ ad, A = some ad → B ≤ ad.block ∧ ad.block < w.heap.size := fun ad had => by
  subst had
  rcases h.row.2 with ⟨h0, _⟩ | ⟨g, cap, cur, hv, hb, hc, _⟩
  · cases h0
  · cases hv
    exact ⟨hb, (Array.getElem?_eq_some_iff.1 hc).1⟩
theorem CacheAt.lt (h : CacheAt w B br M n S L) : ∀ k, S k → B ≤ k ∧ k < w.heap.size := by
  obtain ⟨bm, A, c, h, hS, _⟩ := h
  intro k hk
  rcases (hS k).1 hk with rfl | rfl | ⟨e, he, rfl⟩ | ⟨ad, had, rfl⟩
  · exact ⟨h.base.1, h.blk.lt⟩
  · exact ⟨h.base.2.1, h.map.lt⟩
  · exact ⟨h.base.2.2 e he, (h.ent e he).lt⟩
  · exact h.row_lt ad had
theorem CacheAt.keep (h : CacheAt w B br M n S L) (hk : ∀ k, S k → w'.heap[k]? = w.heap[k]?) : CacheAt w' B br M n S L := by
  obtain ⟨bm, A, c, h, hS, h3⟩ := h
  have hk' : ∀ k, Mine br bm A L k → w'.heap[k]? = w.heap[k]? := fun k hm => hk k ((hS k).2 hm)
  exact ⟨bm, A, c, h.keep (hk' _ (.inl rfl)) (hk' _ (.inr (.inl rfl))) (fun e he => hk' _ (.inr (.inr (.inl ⟨e, he, rfl⟩)))) (fun ad had => hk' _ (.inr (.inr (.inr ⟨ad, had, rfl⟩)))), hS, h3⟩
theorem CacheAt.below (h : CacheAt w B br M n S L) (hb : Below w.heap.size w w') : CacheAt w' B br M n S L := h.keep fun k hk => hb.block k (h.lt k hk).2
theorem CacheAt.drewN (h : CacheAt w B br M n S L) (j : Nat) : CacheAt (w.drewN j) B br M n S L := h.keep fun _ _ => rfl
theorem CacheAt.lists (h : CacheAt w B br M n S L) : (keysL L).Nodup ∧ (∀ e ∈ L, (Lit.int .i64 e.key).wf = true) ∧ total L ≤ M ∧ L.length ≤ n := by
  obtain ⟨bm, A, c, h, hS, h3, h4⟩ := h
  exact ⟨h.nodup, h.wf, h3, h4⟩
theorem Stepped.same (h : CacheAt w B br M n S L) (j : Nat) : Stepped w (w.drewN j) B br M n S L := ⟨S, h.drewN j, fun _ h => .inl h, (Only.refl S w).drewN j⟩
theorem Stepped.below {n' : Nat} {L' : List Ent} (h : CacheAt w B br M n S L) (hs : Stepped w w' B br M n' S L') : Below B w w' := by
  obtain ⟨S', h1, h2, h3⟩ := hs
  obtain ⟨bm, A, c, hl, hS, _⟩ := h
  refine h3.below (by have := hl.base.1; have := hl.blk.lt; omega) fun k hk hs => ?_
  have := CacheAt.lt ⟨bm, A, c, hl, hS, by assumption⟩ k hs
  omega

theorem step_mk {bm c' : Nat} {A A' : Option Addr} {n' : Nat} {L' : List Ent} (hS : ∀ k, S k ↔ Mine br bm A L k) (h' : LruAt w' B br M n' L' bm A' c') (hb : Below B w w') (hk : ∀ k, k < w.heap.size → ¬ Mine br bm A L k → w'.heap[k]? = w.heap[k]?)
    (hA : NewAt w A A') (hL : ∀ e ∈ L', (∃ z ∈ L, e.g = z.g) ∨ w.heap.size ≤ e.g) (ht : total L' ≤ M) (hl : L'.length ≤ n') : Stepped w w' B br M n' S L' := by
  refine ⟨Mine br bm A' L', ⟨bm, A', c', h', fun _ => Iff.rfl, ht, hl⟩, ?_, hb.os, hb.tape, hb.output, hb.size, fun k hk1 hs => hk k hk1 fun hm => hs ((hS k).2 hm)⟩
  intro k hm
  rw [hS]
  rcases hm with rfl | rfl | ⟨e, he, rfl⟩ | ⟨ad, had, rfl⟩
  · exact .inl (.inl rfl)
  · exact .inl (.inr (.inl rfl))
  · rcases hL e he with ⟨z, hz, hg⟩ | h
    · exact .inl (.inr (.inr (.inl ⟨z, hz, hg⟩)))
    · exact .inr h
  · rcases hA ad had with ⟨a, ha, hg⟩ | h
    · exact .inl (.inr (.inr (.inr ⟨a, ha, hg⟩)))
    · exact .inr h
theorem kept_mine {bm : Nat} {A : Option Addr} (h : KeptBut w w' br bm A) : ∀ k, k < w.heap.size → ¬ Mine br bm A L k → w'.heap[k]? = w.heap[k]? :=
  fun k hk hm => h k hk (fun e => hm (.inl e)) (fun e => hm (.inr (.inl e))) fun ad had e => hm (.inr (.inr (.inr ⟨ad, had, e⟩)))

theorem new_c {m : Int} {M : Nat} {w : World} (hM : mnI (mxI m 0) 65536 = (M : Int)) :
    Calls Try.prog 9 #[.int .i64 m] w fun e w' => ∃ br S, e = .returned (.pointer (some ⟨br, 0, none⟩)) ∧ CacheAt w' w.heap.size br M 0 S [] ∧ Below w.heap.size w w' :=
  (new_any hM).mono fun e w' ⟨br, bm, he, h, hb⟩ => ⟨br, Mine br bm none [], he, ⟨bm, none, 0, h, fun _ => Iff.rfl, by simp [total], by simp⟩, hb⟩
theorem put_c (h : Hid (CacheAt w B br M n S L)) {x : Int} (hx : (Lit.int .i64 x).wf = true) (hM : M ≤ 65536) (hn : n ≤ 900) (v : ByteArray) (hv : v.size ≤ 100000) :
    Calls Try.prog 13 #[.pointer (some ⟨br, 0, none⟩), .int .i64 x, .string v] w fun e w' => ∃ g Ao co, e = .returned (.slice Ao (putL M L x v g).2.length co) ∧ w.heap.size ≤ g ∧ IntsAt w' w'.heap.size Ao (putL M L x v g).2 ∧ Stepped w w' B br M (n + 1) S (putL M L x v g).1 := by
  obtain ⟨bm, A, c, hL, hS, ht, hl⟩ := h.out
  refine (put_any (hid hL) hx hM ht (by omega) (by omega) v hv).mono ?_
  rintro e w' ⟨A', c', g, Ao, co, he, h', hi, hb, hk, hA, hg⟩
  refine ⟨g, Ao, co, he, hg, hi, step_mk hS h' hb (kept_mine hk) hA (fun e he => ?_) (putL_total _ _ _ _ _ ht) (by have := putL_len M L x v g; omega)⟩
  rcases putL_mem e he with h1 | h1
  · exact .inl ⟨e, h1, rfl⟩
  · exact .inr (by omega)
theorem get_c (h : Hid (CacheAt w B br M n S L)) {x : Int} (hx : (Lit.int .i64 x).wf = true) (hn : n ≤ 900) :
    Calls Try.prog 15 #[.pointer (some ⟨br, 0, none⟩), .int .i64 x] w fun e w' => e = .returned (.tuple #[.string (getV L x), .bool (look L x).isSome]) ∧ Stepped w w' B br M n S (getL L x) := by
  have h0 := h.out
  obtain ⟨bm, A, c, hL, hS, ht, hl⟩ := h0
  cases hf : L.findIdx? (fun e => e.key == x) with
  | none =>
    have h1 := (goneL_none hf).1
    refine (get_no (hid hL) hx h1).mono ?_
    rintro e w' ⟨rfl, rfl⟩
    have e1 : getL L x = L := by unfold getL; rw [hf]
    have e2 : getV L x = ⟨#[]⟩ := by
      unfold getV
      rw [List.find?_eq_none.2 (fun z hz => by have := List.findIdx?_eq_none_iff.1 hf z hz; simpa using this)]
      rfl
    rw [h1, e1, e2]
    exact ⟨rfl, Stepped.same h.out 0⟩
  | some i =>
    obtain ⟨e, he, hk, _⟩ := goneL_some hf
    subst hk
    refine (get_yes (hid hL) he (by omega)).mono ?_
    rintro r w' ⟨rfl, ⟨A', c', h', hA⟩, hb, hk⟩
    have e1 : getL L e.key = L.eraseIdx i ++ [e] := by unfold getL; rw [hf]; simp [he]
    have e2 : getV L e.key = e.v := by unfold getV; rw [find_at hL.nodup he]; rfl
    have hp := erase_perm he
    rw [look_at hL.nodup he, e1, e2]
    exact ⟨rfl, step_mk hS h' hb (kept_mine hk) hA (fun z hz => .inl ⟨z, hp.mem_iff.1 hz, rfl⟩) (by unfold total at ht ⊢; rw [(hp.map _).sum_nat]; exact ht) (by rw [hp.length_eq]; exact hl)⟩
theorem pin_c (h : Hid (CacheAt w B br M n S L)) {x : Int} (b : Bool) (hx : (Lit.int .i64 x).wf = true) :
    Calls Try.prog 17 #[.pointer (some ⟨br, 0, none⟩), .int .i64 x, .bool b] w fun e w' => e = .returned (.bool (look L x).isSome) ∧ Stepped w w' B br M n S (setP L x b) := by
  have h0 := h.out
  obtain ⟨bm, A, c, hL, hS, ht, hl⟩ := h0
  cases hf : L.findIdx? (fun e => e.key == x) with
  | none =>
    have h1 := (goneL_none hf).1
    refine (pin_no (hid hL) b hx h1).mono ?_
    rintro e w' ⟨rfl, rfl⟩
    rw [h1, setP_none hf]
    exact ⟨rfl, Stepped.same h.out 0⟩
  | some i =>
    obtain ⟨e, he, hk, _⟩ := goneL_some hf
    subst hk
    refine (pin_yes (hid hL) he b).mono ?_
    rintro r w' ⟨rfl, h', hb, hk⟩
    have ht' : total (setP L e.key b) ≤ M := by rw [setP_total]; exact ht
    rw [look_at hL.nodup he]
    rw [setP_some hL.nodup he] at ht' ⊢
    refine ⟨rfl, step_mk hS h' hb (fun k _ hm => hk k fun e' => hm (.inr (.inr (.inl ⟨e, List.mem_of_getElem? he, e'⟩)))) (NewAt.refl _ _) (fun z hz => .inl ?_) ht' (by simp [pinL]; exact hl)⟩
    rcases List.mem_or_eq_of_mem_set hz with hz | rfl
    · exact ⟨z, hz, rfl⟩
    · exact ⟨e, List.mem_of_getElem? he, rfl⟩
theorem drop_c (h : Hid (CacheAt w B br M n S L)) {x : Int} (hx : (Lit.int .i64 x).wf = true) (hM : M ≤ 65536) :
    Calls Try.prog 19 #[.pointer (some ⟨br, 0, none⟩), .int .i64 x] w fun e w' => e = .returned (.bool (look L x).isSome) ∧ Stepped w w' B br M n S (goneL L x) := by
  have h0 := h.out
  obtain ⟨bm, A, c, hL, hS, ht, hl⟩ := h0
  cases hf : L.findIdx? (fun e => e.key == x) with
  | none =>
    obtain ⟨h1, h2⟩ := goneL_none hf
    refine (drop_no (hid hL) hx h1).mono ?_
    rintro e w' ⟨rfl, rfl⟩
    rw [h1, h2]
    exact ⟨rfl, Stepped.same h.out 0⟩
  | some i =>
    obtain ⟨e, he, hk, hg⟩ := goneL_some hf
    subst hk
    refine (drop_yes (hid hL) he (by omega)).mono ?_
    rintro r w' ⟨rfl, h', hb, hk⟩
    have hsub := List.eraseIdx_sublist L i
    rw [look_at hL.nodup he, hg]
    exact ⟨rfl, step_mk hS h' hb (kept_mine hk) (NewAt.refl _ _) (fun z hz => .inl ⟨z, hsub.mem hz, rfl⟩) (Nat.le_trans (total_sub hsub) ht) (Nat.le_trans hsub.length_le hl)⟩
theorem keys_c (h : Hid (CacheAt w B br M n S L)) (hn : n ≤ 900) :
    Calls Try.prog 20 #[.pointer (some ⟨br, 0, none⟩)] w fun e w' => ∃ A' c', e = .returned (.slice A' L.length c') ∧ IntsAt w' w'.heap.size A' (keysL L) ∧ Below w.heap.size w w' := by
  obtain ⟨bm, A, c, hL, hS, ht, hl⟩ := h.out
  exact keys_any (hid hL) (by omega)
theorem bytes_c (h : Hid (CacheAt w B br M n S L)) : Calls Try.prog 22 #[.pointer (some ⟨br, 0, none⟩)] w fun e w' => e = .returned (.int .i64 (total L : Nat)) ∧ w = w' := by
  obtain ⟨bm, A, c, hL, hS, ht, hl⟩ := h.out
  exact bytes_any (hid hL)
end
end Go.Proofs.Ytehdclfmkeemgaa
