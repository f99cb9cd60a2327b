/- A key is let go. -/
import Derived.Test.YtehdclfmkeemgaaLru
import Derived.WalkMore
namespace Go.Proofs.Ytehdclfmkeemgaa
open Go.RowKit
attribute [local irreducible] wpQuiet

theorem wpList_del {w : World} {ops : Array Oper} {rest : List Oper} {o : Oper} {a : Act} {Q : Exit → Act → World → Prop} (hg : o.guard = none) (m x : Operand) (hop : o.op = Op.call { callee := Callee.builtin Builtin.delete, args := #[m, x], argTypes := #[55, 3] })
    (b n : Nat) (f : Int → Option Nat) (hm : a.eval m = .map (some b)) (hown : MapAt w b n f) (key : Int) (hx : a.eval x = .int .i64 key) (hkey : (Lit.int .i64 key).wf = true)
    (hK : ∀ w', MapAt w' b n (fun y => if y = key then none else f y) → w.mapTurned w' b → wpList Try.prog ops Q rest (a.put o.dst (.tuple #[])) w') :
    wpList Try.prog ops Q (o :: rest) a w := by
  refine wpList_plain hg fun K' hK' => ?_
  obtain ⟨w', hrun, r1, r2⟩ := hown.del hkey o.type
  unfold Oper.wp
  simp [execOp, hop, resolve, invoke, builtin, hm, hx, hrun, Result.andThen]
  exact hK' _ _ (hK w' r1 r2)

/-- What stands in other blocks than br, bm, and A's, is as it was. -/
def KeptBut (w w' : World) (br bm : Nat) (A : Option Addr) : Prop := ∀ k, k < w.heap.size → k ≠ br → k ≠ bm → (∀ ad, A = some ad → k ≠ ad.block) → w'.heap[k]? = w.heap[k]?
/-- A row that stands where A stood, or in a new block. -/
def NewAt (w : World) (A A' : Option Addr) : Prop := ∀ ad, A' = some ad → (∃ a, A = some a ∧ ad.block = a.block) ∨ w.heap.size ≤ ad.block
theorem NewAt.refl (w : World) (A : Option Addr) : NewAt w A A := fun ad h => .inl ⟨ad, h, rfl⟩
theorem KeptBut.trans {w w1 w2 : World} {br bm : Nat} {A : Option Addr} (h : KeptBut w w1 br bm A) (k : KeptBut w1 w2 br bm A) (hs : w.heap.size ≤ w1.heap.size) : KeptBut w w2 br bm A :=
  fun i hi h1 h2 h3 => (k i (by omega) h1 h2 h3).trans (h i hi h1 h2 h3)
theorem KeptBut.refl (w : World) (br bm : Nat) (A : Option Addr) : KeptBut w w br bm A := fun _ _ _ _ _ => rfl
theorem own_at {w w' : World} {B g n c : Nat} {xs : List Value} (h : w.ownsRow B 3 1 (.slice (some ⟨g, 0, none⟩) n c) n xs) (hk : w'.heap[g]? = w.heap[g]?) : w'.ownsRow B 3 1 (.slice (some ⟨g, 0, none⟩) n c) n xs := by
  obtain ⟨hl, h⟩ := h
  rcases h with ⟨h0, _⟩ | ⟨g', cap, cur, hv, hb, hc, hr⟩
  · cases h0
  · cases hv
    exact ⟨hl, .inr ⟨g, c, cur, rfl, hb, hk.trans hc, hr⟩⟩
theorem row_form {w : World} {B n c : Nat} {A : Option Addr} {xs : List Value} (h : w.ownsRow B 3 1 (.slice A n c) n xs) (hn : 0 < n) : ∃ g cur, A = some ⟨g, 0, none⟩ ∧ B ≤ g ∧ w.heap[g]? = some (.cells cur 3 (0, 0)) ∧ c ≤ maxLen ∧ n ≤ c := by
  obtain ⟨hl, h⟩ := h
  rcases h with ⟨_, h0⟩ | ⟨g', cap, cur, hv, hb, hc, hnc, hcap, _⟩
  · omega
  · cases hv
    exact ⟨g', cur, rfl, hb, hc, hcap, hnc⟩
theorem look_at {L : List Ent} (hn : (keysL L).Nodup) {i : Nat} {e : Ent} (he : L[i]? = some e) : look L e.key = some e.g := by
  induction L generalizing i with
  | nil => simp at he
  | cons a L ih =>
    unfold look
    rw [List.find?_cons]
    have hn' : a.key ∉ keysL L ∧ (keysL L).Nodup := by simpa [keysL] using hn
    cases i with
    | zero =>
      simp only [List.getElem?_cons_zero, Option.some.injEq] at he
      subst he
      simp
    | succ i =>
      simp only [List.getElem?_cons_succ] at he
      have hne : a.key ≠ e.key := fun h => hn'.1 (by rw [h]; exact List.mem_map_of_mem (List.mem_of_getElem? he))
      have : (a.key == e.key) = false := by simpa using hne
      rw [this]
      exact ih hn'.2 he
theorem look_erase {L : List Ent} (hn : (keysL L).Nodup) {i : Nat} {e : Ent} (he : L[i]? = some e) (y : Int) : look (L.eraseIdx i) y = if y = e.key then none else look L y := by
  induction L generalizing i with
  | nil => simp at he
  | cons a L ih =>
    have hn' : a.key ∉ keysL L ∧ (keysL L).Nodup := by simpa [keysL] using hn
    cases i with
    | zero =>
      simp only [List.getElem?_cons_zero, Option.some.injEq] at he
      subst he
      simp only [List.eraseIdx_cons_zero]
      split
      · rename_i hy
        subst hy
        unfold look
        rw [List.find?_eq_none.2 (fun z hz h => hn'.1 (by rw [← (by simpa using h : z.key = a.key)]; exact List.mem_map_of_mem hz))]
        rfl
      · rename_i hy
        unfold look
        rw [List.find?_cons, show (a.key == y) = false by simpa using fun h => hy h.symm]
    | succ i =>
      simp only [List.getElem?_cons_succ] at he
      have hne : a.key ≠ e.key := fun h => hn'.1 (by rw [h]; exact List.mem_map_of_mem (List.mem_of_getElem? he))
      have hi := ih hn'.2 he
      simp only [List.eraseIdx_cons_succ]
      unfold look at hi ⊢
      rw [List.find?_cons, List.find?_cons]
      by_cases hy : a.key = y
      · rw [show (a.key == y) = true by simpa using hy, if_neg (fun h => hne (hy.trans h))]
      · rw [show (a.key == y) = false by simpa using hy]
        exact hi
theorem total_erase {L : List Ent} {i : Nat} {e : Ent} (he : L[i]? = some e) : total (L.eraseIdx i) + e.v.size = total L := by
  induction L generalizing i with
  | nil => simp at he
  | cons a L ih =>
    cases i with
    | zero =>
      simp only [List.getElem?_cons_zero, Option.some.injEq] at he
      subst he
      simp [total]; omega
    | succ i =>
      simp only [List.getElem?_cons_succ] at he
      have := ih he
      simp only [total, List.eraseIdx_cons_succ, List.map_cons, List.sum_cons] at *
      omega
theorem keys_erase (L : List Ent) (i : Nat) : keysL (L.eraseIdx i) = (keysL L).eraseIdx i := by
  unfold keysL
  rw [List.eraseIdx_eq_take_drop_succ, List.eraseIdx_eq_take_drop_succ, List.map_append, List.map_take, List.map_drop]
theorem at_key {L : List Ent} (hn : (keysL L).Nodup) {i : Nat} {e : Ent} (he : L[i]? = some e) : atI (keysL L) e.key = i := by
  have hi : i < L.length := (List.getElem?_eq_some_iff.1 he).1
  have hk : ∀ j, j < L.length → (keysL L).getD j 0 = (keysL L)[j]! := fun j hj => by simp [List.getD, keysL, hj]
  refine atI_found (by simpa [keysL] using hi) (by simp [keysL, List.getD, he]) fun j hj h => ?_
  have hjl : j < (keysL L).length := by simp [keysL]; omega
  have hil : i < (keysL L).length := by simpa [keysL] using hi
  have e1 : (keysL L)[j] = (keysL L)[i] := by
    have : (keysL L).getD i 0 = e.key := by simp [keysL, List.getD, he]
    rw [← this] at h
    simpa [List.getD, hjl, hil] using h
  exact absurd ((List.getElem_inj hn).1 e1) (by omega)

section
variable {w : World} {B br M N bm c : Nat} {A : Option Addr} {L : List Ent}
theorem gone_no (h : Hid (LruAt w B br M N L bm A c)) {x : Int} (hx : (Lit.int .i64 x).wf = true) (hn : look L x = none) :
    Calls Try.prog 28 #[.pointer (some ⟨br, 0, none⟩), .int .i64 x] w fun e w' => e = .returned (.bool false) ∧ w = w' := by
  have e2 : w.cell? ⟨br, 2, none⟩ = some (.map (some bm)) := by rw [h.out.blk.cell]; rfl
  have hl := h.out.map.look hx
  rw [hn] at hl
  simp only [ptrOf, Option.isSome_none] at hl
  clear hn hx
  go_enter Try.func28, Try.ntmps28
  go_wp2_with fail
  go_ret
  exact ⟨rfl, rfl⟩

set_option maxHeartbeats 400000 in
theorem gone_yes (h : Hid (LruAt w B br M N L bm A c)) {i : Nat} {e : Ent} (he : L[i]? = some e) (ht : total L ≤ 9223372036854775807) :
    Calls Try.prog 28 #[.pointer (some ⟨br, 0, none⟩), .int .i64 e.key] w fun r w' => r = .returned (.bool true) ∧ LruAt w' B br M N (L.eraseIdx i) bm A c ∧ Below B w w' ∧ KeptBut w w' br bm A := by
  have e1 : w.cell? ⟨br, 1, none⟩ = some (.int .i64 (total L : Nat)) := by rw [h.out.blk.cell]; rfl
  have e2 : w.cell? ⟨br, 2, none⟩ = some (.map (some bm)) := by rw [h.out.blk.cell]; rfl
  have hlk : look L e.key = some e.g := look_at h.out.nodup he
  have hmem : e ∈ L := List.mem_of_getElem? he
  have hl := h.out.map.look (h.out.wf e hmem)
  rw [hlk] at hl
  simp only [ptrOf, Option.isSome_some] at hl
  have eg : w.cell? ⟨e.g, 0, none⟩ = some (.string e.v) := by rw [(h.out.ent e hmem).cell]; rfl
  have f1 := h.out.blk.frozen 1
  have hle : e.v.size ≤ total L := by have := total_erase he; omega
  have hsub : IntKind.i64.wrap (((total L : Nat) : Int) - (e.v.size : Int)) = ((total L : Nat) : Int) - (e.v.size : Int) := by rw [IntKind.wrap_i64]; omega
  clear hlk
  go_enter Try.func28, Try.ntmps28
  go_wp2_with fail
  go_region
  have hbm : br ≠ bm := fun e' => by
    obtain ⟨D, ⟨es, clock, hb, _⟩, _⟩ := h.out.map
    have := h.out.blk
    unfold Blk at this
    rw [e', hb] at this
    cases this
  obtain ⟨w1, hw1⟩ : ∃ w1, w1 = (w.setCell ⟨br, 1, none⟩ (.int .i64 (((total L : Nat) : Int) - (e.v.size : Int)))).drew := ⟨_, rfl⟩
  have ho1 : Only (fun k => k = br) w w1 := by rw [hw1]; exact (Only.setCell (Only.refl (fun k => k = br) w) (p := ⟨br, 1, none⟩) (.inl rfl) _).drew
  have hblk1 : Blk w1 br 57 #[.int .i64 M, .int .i64 (((total L : Nat) : Int) - (e.v.size : Int)), .map (some bm), .slice A L.length c] := by
    rw [hw1]
    exact (h.out.blk.set_ 1 _).drew
  have hmap1 : MapAt w1 bm N (look L) := h.out.map.keep (ho1.block bm h.out.map.lt (fun e' => hbm e'.symm))
  subst hw1
  have hx := h.out.wf e hmem
  have step : ∀ w2, World.mapTurned (w.setCell ⟨br, 1, none⟩ (.int .i64 (((total L : Nat) : Int) - (e.v.size : Int)))).drew w2 bm → Blk w2 br 57 #[.int .i64 M, .int .i64 (((total L : Nat) : Int) - (e.v.size : Int)), .map (some bm), .slice A L.length c] ∧ w2.cell? ⟨br, 3, none⟩ = some (.slice A L.length c) := by
    intro w2 hturn
    have hblk2 : Blk w2 br 57 #[.int .i64 M, .int .i64 (((total L : Nat) : Int) - (e.v.size : Int)), .map (some bm), .slice A L.length c] := (hturn.grown.block br hblk1.lt (fun e' => hbm (Option.some.inj e'))).trans hblk1
    exact ⟨hblk2, by rw [hblk2.cell]; rfl⟩
  have ST := hid step
  clear step
  go_wp2_with (at_delete; refine wpList_del (by rfl) (.tmp 34) (.tmp 35) (by rfl) bm N (look L) (by rfl) hmap1 e.key (by rfl) hx ?_; intro w2 hmap2 hturn; obtain ⟨hblk2, d3⟩ := ST.out w2 hturn)
  have hil : i < L.length := (List.getElem?_eq_some_iff.1 he).1
  obtain ⟨g, cur, rfl, hBg, hcur, hcm, hlc⟩ := row_form h.out.row (by omega)
  have hgbr : g ≠ br := fun e' => by
    have := h.out.blk
    unfold Blk at this
    rw [← e', hcur] at this
    injection this with this
    injection this with _ this
    cases this
  have hgbm : g ≠ bm := fun e' => by
    obtain ⟨D, ⟨es, clock, hb, _⟩, _⟩ := h.out.map
    rw [← e', hcur] at hb
    cases hb
  have hglt : g < w.heap.size := (Array.getElem?_eq_some_iff.1 hcur).1
  have hg1 := ho1.block g hglt hgbr
  have hg2 := hturn.grown.block g (by have := ho1.size; omega) (fun e' => hgbm (Option.some.inj e'))
  have hrow2 := hid (own_at h.out.row (hg2.trans hg1))
  have hkl : (keysL L).length = L.length := by simp [keysL]
  have hi2 : Hid (IntsAt w2 w2.heap.size (some ⟨g, 0, none⟩) (keysL L)) := hid (IntsAt.of_holds (Holds.of_own hrow2.out))
  refine (idx_any e.key hi2 hkl (by omega)).mono ?_
  rintro r w3 ⟨rfl, rfl⟩
  rw [at_key h.out.nodup he]
  have hwi : IntKind.i64.wrap ((i : Int) + 1) = (i : Int) + 1 := by rw [IntKind.wrap_i64]; unfold maxLen at hcm; omega
  have hdel := del_any (ks := keysL L) (base := B) (g := g) (c := c) (i := i) (w := w2) (by rw [hkl]; exact hrow2) (by omega)
  rw [hkl] at hdel
  have HD := hid hdel
  have f3 := hblk2.frozen 3
  clear hdel
  go_wp2_with fail
  refine HD.out.mono ?_
  rintro r w3 ⟨rfl, hown3, hg3⟩
  have hblk3 : Blk w3 br 57 #[.int .i64 M, .int .i64 (((total L : Nat) : Int) - (e.v.size : Int)), .map (some bm), .slice (some ⟨g, 0, none⟩) L.length c] := (hg3.block br hblk2.lt (fun e' => hgbr (Option.some.inj e').symm)).trans hblk2
  have e3' : w3.cell? ⟨br, 3, none⟩ = some (.slice (some ⟨g, 0, none⟩) L.length c) := by rw [hblk3.cell]; rfl
  have f3' := hblk3.frozen 3
  have HO3 := hid hown3
  have HG3 := hid hg3
  clear hown3 hg3
  go_wp2_with fail
  go_ret
  have hbr := h.out.blk.lt
  have hbml := h.out.map.lt
  have hs12 : w.heap.size ≤ w2.heap.size := by have := ho1.size; have := hturn.grown.size; omega
  have hs23 : w2.heap.size ≤ w3.heap.size := HG3.out.size
  have hk : ∀ k, k < w.heap.size → k ≠ br → k ≠ bm → k ≠ g → (w3.setCell ⟨br, 3, none⟩ (.slice (some ⟨g, 0, none⟩) (L.length - 1) c)).heap[k]? = w.heap[k]? := by
    intro k hk h1 h2 h3
    rw [Below.heap_setCell _ _ _ _ (show k ≠ br from h1), HG3.out.block k (by omega) (fun e' => h3 (Option.some.inj e')), hturn.grown.block k (by have := ho1.size; omega) (fun e' => h2 (Option.some.inj e'))]
    exact ho1.block k hk h1
  have hle : (L.eraseIdx i).length = L.length - 1 := List.length_eraseIdx_of_lt hil
  have htot : (((total L : Nat) : Int) - (e.v.size : Int)) = ((total (L.eraseIdx i) : Nat) : Int) := by have := total_erase he; omega
  refine ⟨rfl, ⟨?_, ?_, ?_, ?_, ?_, ?_, ?_, ?_⟩, ?_, fun k h0 h1 h2 h3 => hk k h0 h1 h2 (h3 _ rfl)⟩
  · have := hblk3.set_ 3 (.slice (some ⟨g, 0, none⟩) (L.length - 1) c)
    rw [hle, ← htot]
    exact this
  · have hf : look (L.eraseIdx i) = fun y => if y = e.key then none else look L y := funext fun y => look_erase h.out.nodup he y
    rw [hf]
    refine hmap2.keep ?_
    rw [Below.heap_setCell _ _ _ _ (show bm ≠ br from fun e' => hbm e'.symm), HG3.out.block bm (by omega) (fun e' => hgbm (Option.some.inj e').symm)]
  · intro e' he'
    have hm' := List.mem_of_mem_eraseIdx he'
    have hb := h.out.ent e' hm'
    refine (hk e'.g hb.lt (fun e2 => ?_) (fun e2 => ?_) (fun e2 => ?_)).trans hb
    · exact (hb.ne_ h.out.blk (by decide)) e2
    · obtain ⟨D, ⟨es, clock, hbb, _⟩, _⟩ := h.out.map
      unfold Blk at hb
      rw [e2, hbb] at hb
      cases hb
    · exact (hb.ne_ (show Blk w g 3 cur from hcur) (by decide)) e2
  · have := own_at (w' := w3.setCell ⟨br, 3, none⟩ (.slice (some ⟨g, 0, none⟩) (L.length - 1) c)) HO3.out (Below.heap_setCell _ _ _ _ (show g ≠ br from hgbr))
    rw [hle, keys_erase]
    exact this
  · rw [keys_erase]; exact h.out.nodup.sublist (List.eraseIdx_sublist _ _)
  · have : (L.eraseIdx i).map Ent.g = (L.map Ent.g).eraseIdx i := by
      rw [List.eraseIdx_eq_take_drop_succ, List.eraseIdx_eq_take_drop_succ, List.map_append, List.map_take, List.map_drop]
    rw [this]; exact h.out.gs.sublist (List.eraseIdx_sublist _ _)
  · exact fun e' he' => h.out.wf e' (List.mem_of_mem_eraseIdx he')
  · exact ⟨h.out.base.1, h.out.base.2.1, fun e' he' => h.out.base.2.2 e' (List.mem_of_mem_eraseIdx he')⟩
  · exact (((ho1.below (by have := h.out.base.1; omega) (fun k hk e' => by have := h.out.base.1; omega)).grown hturn.grown (by have := ho1.size; have := h.out.base.2.1; omega) (fun q hq => by cases hq; exact h.out.base.2.1)).grown HG3.out (by omega) (fun q hq => by cases hq; exact hBg)).setCell h.out.base.1 _
end
end Go.Proofs.Ytehdclfmkeemgaa
