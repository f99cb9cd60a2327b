/- The ring said of an abstract row of texts: what each of its functions answers and leaves. -/
import Derived.Test.YtjjldcnipgjfpaaRing
import Derived.Deep.OwnRows
namespace Go.Proofs.Ytjjldcnipgjfpaa
open Go.RowKit
attribute [local go_sem high] run_mxI run_mnI

theorem made_strs (N : Nat) : madeCells #[Value.string ⟨#[]⟩] N = (strs (List.replicate N ⟨#[]⟩)).toArray := by
  apply Array.ext
  · simp [madeCells, strs]
  · intro i h1 h2
    simp [madeCells, strs, Nat.mod_one]

set_option maxHeartbeats 400000 in
theorem new_any {n : Int} {N : Nat} {w : World} (hN : mnI (mxI n 1) 64 = N) (hN2 : N ≤ 64) :
    Calls Try.prog 8 #[.int .i64 n] w fun e w' => ∃ br bl, e = .returned (.pointer (some ⟨br, 0, none⟩)) ∧ w.heap.size ≤ br ∧ w.heap.size ≤ bl ∧ Blk w' br 50 #[.slice (some ⟨bl, 0, none⟩) N N, .int .i64 0, .int .i64 0] ∧
      Blk w' bl 9 (strs (List.replicate N ⟨#[]⟩)).toArray ∧ Below w.heap.size w w' := by
  have hmk : ∀ W : World, (Instr.makeSlice 32 (.int .i64 (N : Int)) (.int .i64 (N : Int))).run Try.prog W = .ok (.slice (some ⟨W.heap.size, 0, none⟩) N N) (W.alloc (.cells (madeCells #[.string ⟨#[]⟩] N) 9)) := by
    intro W
    exact run_make_row' 32 9 (.string ⟨#[]⟩) 16 Try.underlying32 info9 rfl .i64 .i64 N (by omega) (by omega) W
  go_enter Try.func8, Try.ntmps8
  go_wp2
  go_ret
  refine ⟨w.heap.size + 1, w.heap.size, rfl, Nat.le_succ _, Nat.le_refl _, ?_, ?_, ?_⟩
  · have := Blk.new (w.alloc (Obj.cells (madeCells #[Value.string ⟨#[]⟩] N) 9)) 50 #[.slice (some ⟨w.heap.size, 0, none⟩) N N, .int .i64 0, .int .i64 0]
    simpa using this
  · rw [← made_strs]
    exact (Blk.new w 9 _).alloc _
  · exact ((Below.refl _ _).alloc (Nat.le_refl _) _).alloc (by simp) _

set_option maxHeartbeats 400000 in
theorem take_no {br : Nat} {w : World} (h2 : w.cell? ⟨br, 2, none⟩ = some (.int .i64 0)) :
    Calls Try.prog 12 #[.pointer (some ⟨br, 0, none⟩)] w fun e w' => e = .returned (.tuple #[.string ⟨#[]⟩, .bool false]) ∧ w = w' := by
  go_enter Try.func12, Try.ntmps12
  go_wp2_with (go_at_call 19; refine (peek_no (n := 0) h2 (.inr (by omega))).mono ?_; rintro e w' ⟨rfl, rfl⟩)
  go_ret2
  exact ⟨rfl, rfl⟩

set_option maxHeartbeats 400000 in
theorem take_nil {w : World} :
    Calls Try.prog 12 #[.pointer none] w fun e w' => e = .returned (.tuple #[.string ⟨#[]⟩, .bool false]) ∧ w = w' := by
  go_enter Try.func12, Try.ntmps12
  go_wp2_with (go_at_call 19; refine peek_nil.mono ?_; rintro e w' ⟨rfl, rfl⟩)
  go_ret2
  exact ⟨rfl, rfl⟩


/-- What a call that answers v leaves of the ring at br: the texts L; nothing else has turned. -/
def RingPost (w : World) (br bl N : Nat) (L : List ByteArray) (v : Value) (e : Ending) (w' : World) : Prop :=
  e = .returned v ∧ RingAt w' br bl N L ∧ Only (fun k => k = br ∨ k = bl) w w'

theorem RingIs.c0 {w : World} {br bl N a : Nat} {cs L : List ByteArray} (h : RingIs w br bl N a cs L) : w.cell? ⟨br, 0, none⟩ = some (.slice (some ⟨bl, 0, none⟩) N N) := by rw [h.hd.cell]; rfl
theorem RingIs.c1 {w : World} {br bl N a : Nat} {cs L : List ByteArray} (h : RingIs w br bl N a cs L) : w.cell? ⟨br, 1, none⟩ = some (.int .i64 (a : Int)) := by rw [h.hd.cell]; rfl
theorem RingIs.c2 {w : World} {br bl N a : Nat} {cs L : List ByteArray} (h : RingIs w br bl N a cs L) : w.cell? ⟨br, 2, none⟩ = some (.int .i64 (L.length : Int)) := by rw [h.hd.cell]; rfl
theorem RingIs.ne {w : World} {br bl N a : Nat} {cs L : List ByteArray} (h : RingIs w br bl N a cs L) : br ≠ bl := h.hd.ne_ h.row (by decide)
theorem RingAt.drewN {w : World} {br bl N : Nat} {L : List ByteArray} (h : RingAt w br bl N L) (n : Nat) : RingAt (w.drewN n) br bl N L := by
  obtain ⟨a, cs, h⟩ := h
  exact ⟨a, cs, h.hd, h.row, h.len, h.pos, h.top, h.at_, h.fit, h.say⟩
theorem RingAt.only {w w' : World} {br bl N : Nat} {L : List ByteArray} {S : Nat → Prop} (h : RingAt w br bl N L) (ho : Only S w w') (h1 : ¬ S br) (h2 : ¬ S bl) : RingAt w' br bl N L := by
  obtain ⟨a, cs, h⟩ := h
  exact ⟨a, cs, h.hd.only ho h1, h.row.only ho h2, h.len, h.pos, h.top, h.at_, h.fit, h.say⟩
theorem RingAt.lt {w : World} {br bl N : Nat} {L : List ByteArray} (h : RingAt w br bl N L) : br < w.heap.size ∧ bl < w.heap.size := by
  obtain ⟨a, cs, h⟩ := h
  exact ⟨h.hd.lt, h.row.lt⟩
theorem RingAt.top {w : World} {br bl N : Nat} {L : List ByteArray} (h : RingAt w br bl N L) : 1 ≤ N ∧ N ≤ 64 ∧ L.length ≤ N := by
  obtain ⟨a, cs, h⟩ := h
  exact ⟨h.pos, h.top, h.fit⟩

theorem new_at {n : Int} {N : Nat} {w : World} (hN : mnI (mxI n 1) 64 = N) :
    Calls Try.prog 8 #[.int .i64 n] w fun e w' => ∃ br bl, e = .returned (.pointer (some ⟨br, 0, none⟩)) ∧ w.heap.size ≤ br ∧ w.heap.size ≤ bl ∧ RingAt w' br bl N [] ∧ Below w.heap.size w w' := by
  have h1 : 1 ≤ N ∧ N ≤ 64 := by unfold mnI mxI at hN; split at hN <;> split at hN <;> omega
  refine (new_any hN h1.2).mono ?_
  rintro e w' ⟨br, bl, he, h2, h3, h4, h5, h6⟩
  exact ⟨br, bl, he, h2, h3, ⟨0, _, h4, h5, by simp, h1.1, h1.2, by omega, by simp, fun i hi => absurd hi (by simp)⟩, h6⟩

theorem put_at_no {s : ByteArray} {br bl N : Nat} {L : List ByteArray} {w : World} (h : RingAt w br bl N L) (hn : L.length = N ∨ 65536 < s.size) :
    Calls Try.prog 9 #[.pointer (some ⟨br, 0, none⟩), .string s] w (RingPost w br bl N L (.bool false)) := by
  have h' := h
  obtain ⟨a, cs, h⟩ := h
  by_cases hf : N ≤ L.length
  · refine (put_full h.c0 h.c2 hf).mono ?_
    rintro e w' ⟨he, k, rfl⟩
    exact ⟨he, h'.drewN k, (Only.refl _ _).drewN k⟩
  · refine (put_long h.c0 h.c2 (by omega) (by rcases hn with hn | hn <;> omega)).mono ?_
    rintro e w' ⟨he, k, rfl⟩
    exact ⟨he, h'.drewN k, (Only.refl _ _).drewN k⟩

theorem RingIs.slot {w : World} {br bl N a i : Nat} {cs L : List ByteArray} (h : RingIs w br bl N a cs L) : ∃ u, w.cell? ⟨bl, (a + i) % N, none⟩ = some (.string u) ∧ cs[(a + i) % N]? = some u := by
  have hl := h.len
  have hp := h.pos
  have : (a + i) % N < cs.length := by rw [hl]; exact Nat.mod_lt _ (by omega)
  refine ⟨cs[(a + i) % N], ?_, List.getElem?_eq_getElem this⟩
  rw [h.row.cell, strs_get, List.getElem?_eq_getElem this]
  rfl

theorem put_at_yes {s : ByteArray} {br bl N : Nat} {L : List ByteArray} {w : World} (h : RingAt w br bl N L) (hn : L.length < N) (hs : s.size ≤ 65536) :
    Calls Try.prog 9 #[.pointer (some ⟨br, 0, none⟩), .string s] w (RingPost w br bl N (L ++ [s]) (.bool true)) := by
  obtain ⟨a, cs, h⟩ := h
  obtain ⟨u, hu, _⟩ := h.slot (i := L.length)
  have hne := h.ne
  refine (put_yes h.c0 h.c1 h.c2 h.pos h.top h.at_ hn hs hu (h.row.frozen _) (h.hd.frozen _) hne).mono ?_
  rintro e w' ⟨he, k, rfl⟩
  have hpos := h.pos
  refine ⟨he, ⟨a, cs.set ((a + L.length) % N) s, ?_, ?_, by simpa using h.len, h.pos, h.top, h.at_, by simp; omega, ?_⟩, ?_⟩
  · have := ((h.hd.far (p := ⟨bl, (a + L.length) % N, none⟩) hne (.string s)).set_ 2 (.int .i64 ((L.length : Int) + 1))).drewN k
    simpa using this
  · have := (((h.row.set_ ((a + L.length) % N) (.string s))).far (p := ⟨br, 2, none⟩) (fun e => hne e.symm) (.int .i64 ((L.length : Int) + 1))).drewN k
    simpa [strs, List.map_set] using this
  · intro i hi
    simp only [List.length_append, List.length_singleton] at hi
    by_cases hiL : i < L.length
    · rw [List.getElem?_set_ne (fun e => mod_apart (by omega) (by omega) (by omega) e), h.say i hiL, List.getElem?_append_left hiL]
    · obtain rfl : i = L.length := by omega
      rw [List.getElem?_set_self (by rw [h.len]; exact Nat.mod_lt _ (by omega))]
      simp
  · exact (((Only.refl _ _).setCell (.inl (.inr rfl)) _).setCell (.inl (.inl rfl)) _).drewN k

theorem drop_at {x : Int} {m br bl N : Nat} {L : List ByteArray} {w : World} (h : RingAt w br bl N L) (hm : mnI (mxI x 0) L.length = m) :
    Calls Try.prog 18 #[.pointer (some ⟨br, 0, none⟩), .int .i64 x] w (RingPost w br bl N (L.drop m) (.int .i64 m)) := by
  have h' := h
  obtain ⟨a, cs, h⟩ := h
  have hmL : m ≤ L.length := by unfold mnI mxI at hm; split at hm <;> split at hm <;> omega
  rcases Nat.eq_zero_or_pos m with rfl | hm1
  · refine (drop_none h.c2 hm).mono ?_
    rintro e w' ⟨he, rfl⟩
    exact ⟨he, h', Only.refl _ _⟩
  · refine (drop_some h hm hm1 hmL).mono ?_
    rintro e w' ⟨he, wr, k, ⟨cs', hl', hrow', ho', hs'⟩, rfl⟩
    have hne := h.ne
    have hpos := h.pos
    have hfit := h.fit
    have hhd := h.hd.only ho' hne
    refine ⟨he, ⟨(a + m) % N, cs', ?_, ?_, hl', h.pos, h.top, Nat.mod_lt _ (by omega), by simp; omega, ?_⟩, ?_⟩
    · have := ((hhd.set_ 1 (.int .i64 ((a + m) % N : Nat))).set_ 2 (.int .i64 ((L.length : Int) - m))).drewN k
      rw [List.length_drop, show ((L.length - m : Nat) : Int) = (L.length : Int) - m by omega]
      simpa using this
    · exact ((hrow'.far (p := ⟨br, 1, none⟩) (fun e => hne e.symm) _).far (p := ⟨br, 2, none⟩) (fun e => hne e.symm) _).drewN k
    · intro i hi
      rw [List.length_drop] at hi
      rw [List.getElem?_drop, ← hs' (m + i) (by omega) (by omega), Nat.mod_add_mod, Nat.add_assoc]
    · exact ((((ho'.mono (fun k hk => .inr hk)).setCell (.inl (.inl rfl)) _).setCell (.inl (.inl rfl)) _).drewN k)

theorem peek_at_no {i : Int} {br bl N : Nat} {L : List ByteArray} {w : World} (h : RingAt w br bl N L) (hi : i < 0 ∨ (L.length : Int) ≤ i) :
    Calls Try.prog 19 #[.pointer (some ⟨br, 0, none⟩), .int .i64 i] w fun e w' => e = .returned (.tuple #[.string ⟨#[]⟩, .bool false]) ∧ ∃ k, w' = w.drewN k := by
  obtain ⟨a, cs, h⟩ := h
  refine (peek_no h.c2 hi).mono ?_
  rintro e w' ⟨he, rfl⟩
  exact ⟨he, 0, rfl⟩
theorem peek_at_yes {i br bl N : Nat} {L : List ByteArray} {w : World} {s : ByteArray} (h : RingAt w br bl N L) (hi : L[i]? = some s) :
    Calls Try.prog 19 #[.pointer (some ⟨br, 0, none⟩), .int .i64 (i : Int)] w fun e w' => e = .returned (.tuple #[.string s, .bool true]) ∧ ∃ k, w' = w.drewN k := by
  obtain ⟨a, cs, h⟩ := h
  have hlt : i < L.length := (List.getElem?_eq_some_iff.1 hi).1
  refine peek_yes h.c0 h.c1 h.c2 h.pos h.top h.at_ hlt h.fit ?_
  rw [h.row.cell, strs_get, h.say i hlt, hi]
  rfl

theorem all_at {br bl N : Nat} {L : List ByteArray} {w : World} (h : RingAt w br bl N L) :
    Calls Try.prog 21 #[.pointer (some ⟨br, 0, none⟩)] w fun e w' => ∃ v, e = .returned v ∧ w'.ownsRow w.heap.size 9 1 v (strs L).length (strs L) ∧ Below w.heap.size w w' := by
  obtain ⟨a, cs, h⟩ := h
  rcases Nat.eq_zero_or_pos L.length with h0 | h0
  · obtain rfl := List.eq_nil_of_length_eq_zero h0
    refine (all_none h.c2).mono ?_
    rintro e w' ⟨he, rfl⟩
    exact ⟨_, he, World.ownsRow_nil _ _ _ _, Below.refl _ _⟩
  · exact all_some h h0

set_option maxHeartbeats 400000 in
theorem take_yes {br bl N : Nat} {L : List ByteArray} {s : ByteArray} {w : World} (h : Hid (RingAt w br bl N (s :: L))) :
    Calls Try.prog 12 #[.pointer (some ⟨br, 0, none⟩)] w (RingPost w br bl N L (.tuple #[.string s, .bool true])) := by
  have hm : Hid (mnI (mxI 1 0) ((s :: L).length : Int) = (1 : Nat)) := by
    refine hid ?_
    unfold mnI mxI
    simp only [List.length_cons]
    split <;> split <;> omega
  go_enter Try.func12, Try.ntmps12
  go_wp2_with fail
  refine (peek_at_yes (i := 0) h.out rfl).mono ?_
  rintro e w' ⟨rfl, k, rfl⟩
  go_wp2_with fail
  refine (drop_at (h.out.drewN k) hm.out).mono ?_
  rintro e w1 ⟨rfl, h1, h2⟩
  have H1 := hid h1
  have H2 := hid h2
  clear h1 h2
  go_wp2_with fail
  go_ret2
  exact ⟨rfl, H1.out, ((Only.refl _ _).drewN k).trans H2.out⟩

end Go.Proofs.Ytjjldcnipgjfpaa
