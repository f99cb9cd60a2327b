/- Get. -/
import Derived.Test.YtehdclfmkeemgaaVictim
namespace Go.Proofs.Ytehdclfmkeemgaa
open Go.RowKit
attribute [local irreducible] wpQuiet

theorem erase_perm {L : List Ent} {i : Nat} {e : Ent} (he : L[i]? = some e) : (L.eraseIdx i ++ [e]).Perm L := by
  have hi : i < L.length := (List.getElem?_eq_some_iff.1 he).1
  have hei : L[i] = e := by rw [List.getElem?_eq_getElem hi] at he; exact Option.some.inj he
  have h0 : (L.take i ++ e :: L.drop (i + 1)) = L := by rw [← hei, List.getElem_cons_drop, List.take_append_drop]
  rw [List.eraseIdx_eq_take_drop_succ]
  refine (List.perm_append_singleton _ _).trans ?_
  have h1 : (e :: (L.take i ++ L.drop (i + 1))).Perm (L.take i ++ e :: L.drop (i + 1)) := List.perm_middle.symm
  rw [h0] at h1
  exact h1
theorem look_perm {L L' : List Ent} (hp : L'.Perm L) (hn : (keysL L).Nodup) (x : Int) : look L' x = look L x := by
  have hn' : (keysL L').Nodup := (hp.map Ent.key).nodup_iff.2 hn
  by_cases h : ∃ e ∈ L, e.key = x
  · obtain ⟨e, hm, rfl⟩ := h
    obtain ⟨i, hi, rfl⟩ := List.getElem_of_mem hm
    obtain ⟨j, hj, hje⟩ := List.getElem_of_mem (hp.mem_iff.2 hm)
    rw [look_at hn (List.getElem?_eq_getElem hi), ← hje, look_at hn' (List.getElem?_eq_getElem hj)]
  · have h1 : ∀ K : List Ent, (∀ e ∈ K, e.key ≠ x) → look K x = none := fun K hK => by
      unfold look
      rw [List.find?_eq_none.2 (fun z hz => by simpa using hK z hz)]
      rfl
    rw [h1 L (fun e he hk => h ⟨e, he, hk⟩), h1 L' (fun e he hk => h ⟨e, hp.mem_iff.1 he, hk⟩)]

section
variable {w : World} {B br M N bm c : Nat} {A : Option Addr} {L : List Ent}
theorem get_no (h : Hid (LruAt w B br M N L bm A c)) {x : Int} (hx : (Lit.int .i64 x).wf = true) (hn : look L x = none) :
    Calls Try.prog 15 #[.pointer (some ⟨br, 0, none⟩), .int .i64 x] w fun e w' => e = .returned (.tuple #[.string ⟨#[]⟩, .bool false]) ∧ w = w' := by
  have e2 : w.cell? ⟨br, 2, none⟩ = some (.map (some bm)) := by rw [h.out.blk.cell]; rfl
  have hl := h.out.map.look hx
  rw [hn] at hl
  simp only [ptrOf, Option.isSome_none] at hl
  clear hn hx
  go_enter Try.func15, Try.ntmps15
  go_wp2_with fail
  go_ret2
  exact ⟨rfl, rfl⟩

set_option maxHeartbeats 800000 in
theorem get_yes (h : Hid (LruAt w B br M N L bm A c)) {i : Nat} {e : Ent} (he : L[i]? = some e) (hlen : L.length ≤ 65536) :
    Calls Try.prog 15 #[.pointer (some ⟨br, 0, none⟩), .int .i64 e.key] w fun r w' => r = .returned (.tuple #[.string e.v, .bool true]) ∧ (∃ A' c', LruAt w' B br M N (L.eraseIdx i ++ [e]) bm A' c' ∧ NewAt w A A') ∧ Below B w w' ∧ KeptBut w w' br bm A := by
  have hmem : e ∈ L := List.mem_of_getElem? he
  have e2 : w.cell? ⟨br, 2, none⟩ = some (.map (some bm)) := by rw [h.out.blk.cell]; rfl
  have e3 : w.cell? ⟨br, 3, none⟩ = some (.slice A L.length c) := by rw [h.out.blk.cell]; rfl
  have hl := h.out.map.look (h.out.wf e hmem)
  rw [look_at h.out.nodup he] at hl
  simp only [ptrOf, Option.isSome_some] at hl
  have hil : i < L.length := (List.getElem?_eq_some_iff.1 he).1
  obtain ⟨g, cur, rfl, hBg, hcur, hcm, hlc⟩ := row_form h.out.row (by omega)
  have hkl : (keysL L).length = L.length := by simp [keysL]
  have hrow : Hid (IntsAt w w.heap.size (some ⟨g, 0, none⟩) (keysL L)) := hid (IntsAt.of_holds (Holds.of_own h.out.row))
  have HI := hid (idx_any (c := c) e.key hrow hkl (by unfold maxLen; omega))
  have hwi : IntKind.i64.wrap ((i : Int) + 1) = (i : Int) + 1 := by rw [IntKind.wrap_i64]; omega
  have hdel := del_any (ks := keysL L) (base := B) (g := g) (c := c) (i := i) (w := w) (by rw [hkl]; exact hid h.out.row) (by omega)
  rw [hkl] at hdel
  have HD := hid hdel
  have hxl : (nums ((keysL L).eraseIdx i)).length = L.length - 1 := by rw [nums_length, List.length_eraseIdx_of_lt (by omega), hkl]
  have HXL := hid hxl
  have hsz := hid (show ((nums ((keysL L).eraseIdx i)).length + [Value.int .i64 e.key].length) * 8 ≤ 140737488355328 by rw [hxl]; simp; omega)
  clear hdel hxl
  go_enter Try.func15, Try.ntmps15
  go_wp2_with fail
  refine HI.out.mono ?_
  rintro r w1 ⟨rfl, rfl⟩
  rw [at_key h.out.nodup he]
  go_wp2_with fail
  refine HD.out.mono ?_
  rintro r w3 ⟨rfl, hown3, hg3⟩
  have HO3 := hid hown3
  have HG3 := hid hg3
  clear hown3 hg3
  go_wp2_with (at_builtin; refine wpList_app _ rfl (.tmp 36) (.tmp 38) 33 3 (.int .i64 0) 8 rfl Try.underlying33 info3 rfl (by decide) B (.slice (some ⟨g, 0, none⟩) (L.length - 1) c) (nums ((keysL L).eraseIdx i)) rfl ?own (w3.alloc (.cells #[.int .i64 e.key] 3)).heap.size (some ⟨w3.heap.size, 0, none⟩) 1 1 [.int .i64 e.key] rfl rfl ?hold ?one hsz.out ?base ?_)
  case own => rw [HXL.out]; exact HO3.out.alloc _
  case hold => exact Holds.of_blk (Blk.new w3 3 #[.int .i64 e.key]) 0 1 (by simp)
  case one =>
    intro u hu
    simp only [List.mem_singleton] at hu
    subst hu
    rfl
  case base =>
    have h1 := HG3.out.size
    have h2 := h.out.blk.lt
    have h3 := h.out.base.1
    simp
    omega
  intro v' w4 hown hg hat
  have hgbr : g ≠ br := Blk.ne_ (show Blk w g 3 cur from hcur) h.out.blk (by decide)
  have hblk3 : Blk w3 br 57 #[.int .i64 M, .int .i64 (total L : Nat), .map (some bm), .slice (some ⟨g, 0, none⟩) L.length c] := (HG3.out.block br h.out.blk.lt (fun e' => hgbr (Option.some.inj e').symm)).trans h.out.blk
  have hblk4 : Blk w4 br 57 #[.int .i64 M, .int .i64 (total L : Nat), .map (some bm), .slice (some ⟨g, 0, none⟩) L.length c] := (hg.block br (hblk3.alloc _).lt (fun e' => hgbr (by simpa [Value.ownBlock] using e'.symm))).trans (hblk3.alloc _)
  have c3 : w4.cell? ⟨br, 3, none⟩ = some (.slice (some ⟨g, 0, none⟩) L.length c) := by rw [hblk4.cell]; rfl
  have f3 := hblk4.frozen 3
  obtain ⟨A2, c2, hv⟩ := own_form hown
  rw [HXL.out, show L.length - 1 + 1 = L.length by omega] at hv
  subst hv
  have hgbm : g ≠ bm := fun e' => by
    obtain ⟨D, ⟨es, clock, hb, _⟩, _⟩ := h.out.map
    rw [← e', hcur] at hb
    cases hb
  have hk : ∀ k, k < w.heap.size → k ≠ g → w4.heap[k]? = w.heap[k]? := by
    intro k hk h3
    have h1 := HG3.out.size
    rw [hg.block k (by simp; omega) (fun e' => h3 (by simpa [Value.ownBlock] using e')), Below.heap_alloc _ _ _ (by omega), HG3.out.block k hk (fun e' => h3 (Option.some.inj e'))]
  have hbe := h.out.ent e hmem
  have heg : e.g ≠ g := hbe.ne_ (show Blk w g 3 cur from hcur) (by decide)
  have ebr : e.g ≠ br := hbe.ne_ h.out.blk (by decide)
  have hbe4 : Blk w4 e.g 65 #[.string e.v, .bool e.p] := (hk e.g hbe.lt heg).trans hbe
  have cv : w4.cell? ⟨e.g, 0, none⟩ = some (.string e.v) := by rw [hbe4.cell]; rfl
  have HOWN := hid hown
  have HG := hid hg
  have HAT := hid hat
  clear hown hg hat
  go_wp2_with fail
  go_ret2
  have hperm := erase_perm he
  have hlen2 : (L.eraseIdx i ++ [e]).length = L.length := hperm.length_eq
  have hown4 := HOWN.out
  have hks : nums ((keysL L).eraseIdx i) ++ [Value.int .i64 e.key] = nums (keysL (L.eraseIdx i ++ [e])) := by
    rw [show keysL (L.eraseIdx i ++ [e]) = keysL (L.eraseIdx i) ++ [e.key] by simp [keysL], keys_erase, nums_append]
    rfl
  rw [hks, HXL.out, show L.length - 1 + 1 = L.length by omega] at hown4
  obtain ⟨g2, cur2, rfl, hB2, hcur2, _⟩ := row_form hown4 (by omega)
  have hg2 : g2 ≠ br := Blk.ne_ (show Blk w4 g2 3 cur2 from hcur2) hblk4 (by decide)
  have hs34 : w.heap.size ≤ w4.heap.size := by have h1 := HG3.out.size; have h2 := HG.out.size; simp at h2; omega
  have hnew : NewAt w (some ⟨g, 0, none⟩) (some ⟨g2, 0, none⟩) := by
    intro ad had
    obtain rfl := Option.some.inj had
    rcases HAT.out with h1 | h1
    · exact .inl ⟨_, rfl, by simpa [Value.ownBlock] using h1⟩
    · have h2 := HG3.out.size
      have h3 : g2 = w3.heap.size + 1 := by simpa [Value.ownBlock] using h1
      exact .inr (by show w.heap.size ≤ g2; omega)
  refine ⟨rfl, ⟨some ⟨g2, 0, none⟩, c2, ⟨?_, ?_, ?_, ?_, ?_, ?_, ?_, ?_⟩, hnew⟩, ?_, fun k h0 h1 h2 h3 => (Below.heap_setCell _ _ _ _ (show k ≠ br from h1)).trans (hk k h0 (h3 _ rfl))⟩
  · have := hblk4.set_ 3 (.slice (some ⟨g2, 0, none⟩) L.length c2)
    rw [hlen2, show total (L.eraseIdx i ++ [e]) = total L by unfold total; exact (hperm.map _).sum_nat]
    exact this
  · rw [show look (L.eraseIdx i ++ [e]) = look L from funext fun x => look_perm hperm h.out.nodup x]
    exact h.out.map.keep ((Below.heap_setCell _ _ _ _ (show bm ≠ br from fun e' => by
      obtain ⟨D, ⟨es, clock, hb, _⟩, _⟩ := h.out.map
      have := h.out.blk
      unfold Blk at this
      rw [← e', hb] at this
      cases this)).trans (hk bm h.out.map.lt (fun e' => hgbm e'.symm)))
  · intro z hz
    have hb := h.out.ent z (hperm.mem_iff.1 hz)
    exact ((Below.heap_setCell _ _ _ _ (show z.g ≠ br from hb.ne_ h.out.blk (by decide))).trans (hk z.g hb.lt (hb.ne_ (show Blk w g 3 cur from hcur) (by decide)))).trans hb
  · rw [hlen2]
    exact own_at hown4 (Below.heap_setCell _ _ _ _ (show g2 ≠ br from hg2))
  · exact (hperm.map Ent.key).nodup_iff.2 h.out.nodup
  · exact (hperm.map Ent.g).nodup_iff.2 h.out.gs
  · exact fun z hz => h.out.wf z (hperm.mem_iff.1 hz)
  · exact ⟨h.out.base.1, h.out.base.2.1, fun z hz => h.out.base.2.2 z (hperm.mem_iff.1 hz)⟩
  · have hBw : B ≤ w.heap.size := by have := h.out.base.1; have := h.out.blk.lt; omega
    exact ((((Below.refl B w).grown HG3.out hBw (fun q hq => by cases hq; exact hBg)).alloc (by have := HG3.out.size; omega) _).grown HG.out (by have := HG3.out.size; simp; omega) (fun q hq => by simp [Value.ownBlock] at hq; omega)).setCell h.out.base.1 _
end
end Go.Proofs.Ytehdclfmkeemgaa
