/- replies: Put. A device in memory; check, Flush. A device in memory: check, Flush. A device: Read, Write. A device: Write. sums: four, Sum, Seal; bytes: zeros, Pad. bytes: zeros, Pad; frags: head. -/
import Derived.Lib.AppendStr
import Derived.Deep.DeepMust
import Derived.Laws.BitsAllLaws
import Derived.Laws.BytesArg
import Derived.Lib.QuietBelow
import Derived.Test.YtopbojifllnckaaGreatDoorG23
import Derived.Test.YtopbojifllnckaaGreatDoorG22
import Derived.Test.YtopbojifllnckaaGreatDoorG16
namespace Go.Proofs.YtopbojifllnckaaGreatDoor
open Go.RowKit
attribute [local irreducible] wpQuiet
section
variable {S : Nat → Prop} {w w1 : World} {g N : Nat} {f : Int → Int}
theorem rep_put {b : Nat} {tab : Int → Option Row4} {r q n c i : Nat} {cur : Array Value} {cl x : Int} {t : ByteArray}
    (HK : Blk w g 170 #[.int .i64 4, .map (some b)] ∧ S g ∧ S b ∧ RMap w b N tab ∧ (∀ k, RV S w (tab k) (f k)) ∧ ∀ k k' r q n c q' n' c', tab k = some (r, q, n, c) → tab k' = some (r, q', n', c') → k = k')
    (hq : sOf (tab cl) = .slice (some ⟨r, q * 3, none⟩) n c) (hn4 : n ≤ 4) (hsr : S r) (hr : Blk w r 191 cur) (hnc : n ≤ c) (hcm : c ≤ maxLen) (hcs : cur.size = (q + c) * 3) (hent : ∀ j < n, Ent3 cur ((q + j) * 3) (f cl)) (hi : i < n) (hx : 0 ≤ x) (hx2 : x < f cl) :
    Rep S (((w.setCell ⟨r, q * 3 + i * 3, none⟩ (.int .i64 x)).setCell ⟨r, q * 3 + i * 3 + 1, none⟩ (.bool false)).setCell ⟨r, q * 3 + i * 3 + 2, none⟩ (.string t)) g N f ∧ Only S w (((w.setCell ⟨r, q * 3 + i * 3, none⟩ (.int .i64 x)).setCell ⟨r, q * 3 + i * 3 + 1, none⟩ (.bool false)).setCell ⟨r, q * 3 + i * 3 + 2, none⟩ (.string t)) := by
  obtain ⟨k1, k2, k3, k4, k5, k6⟩ := HK
  obtain ⟨o, ho⟩ : ∃ o, o = q * 3 + i * 3 := ⟨_, rfl⟩
  rw [← ho]
  have hother : ∀ k, k ≠ r → (((w.setCell ⟨r, o, none⟩ (.int .i64 x)).setCell ⟨r, o + 1, none⟩ (.bool false)).setCell ⟨r, o + 2, none⟩ (.string t)).heap[k]? = w.heap[k]? := fun k hne =>
    ((Below.heap_setCell _ ⟨r, o + 2, none⟩ _ k hne).trans (Below.heap_setCell _ ⟨r, o + 1, none⟩ _ k hne)).trans (Below.heap_setCell w ⟨r, o, none⟩ _ k hne)
  have hb1 := ((hr.set_ o (.int .i64 x)).set_ (o + 1) (.bool false)).set_ (o + 2) (.string t)
  have hgr : g ≠ r := k1.ne_ hr (by decide)
  have hbr : b ≠ r := Ne.symm (k4.ne hr)
  refine ⟨⟨b, tab, (hother g hgr).trans k1, k2, k3, k4.keep (hother b hbr), fun k => ?_, k6⟩, ?_⟩
  · by_cases hk : k = cl
    · subst hk
      refine ⟨_, n, c, hq, hn4, .inr ⟨r, q, _, rfl, hsr, hb1, hnc, hcm, by simpa using hcs, fun j hj => ?_⟩⟩
      by_cases hji : j = i
      · subst hji
        rw [show (q + j) * 3 = o by omega]
        refine ⟨x, false, t, ?_, ?_, ?_, hx, hx2⟩
        · simp [Array.getElem?_setIfInBounds]; omega
        · simp [Array.getElem?_setIfInBounds]; omega
        · simp [Array.getElem?_setIfInBounds]; omega
      · refine ent3_old (hent j hj) (Int.le_refl _) fun k hk => ?_
        have q1 : o ≠ (q + j) * 3 + k := by omega
        have q2 : o + 1 ≠ (q + j) * 3 + k := by omega
        have q3 : o + 2 ≠ (q + j) * 3 + k := by omega
        simp [q1, q2, q3]
    · obtain ⟨A2, n2, c2, e1, e2, e3⟩ := k5 k
      refine ⟨A2, n2, c2, e1, e2, ?_⟩
      rcases e3 with h | ⟨r3, q3, cur3, rfl, h2', h3, h4⟩
      · exact .inl h
      · have ht := sOf_some e1
        have hne : r3 ≠ r := fun e => by
          subst e
          exact hk (k6 _ _ _ _ _ _ _ _ _ ht (sOf_some hq))
        exact .inr ⟨r3, q3, cur3, rfl, h2', (hother r3 hne).trans h3, h4⟩
  · exact setS hsr _ _ (setS hsr _ _ (setS hsr _ _ (Only.refl _ _)))
theorem Rep.stay (h : Rep S w g N f) (hb : Below w.heap.size w w1) : Rep S w1 g N f ∧ Only S w w1 := ⟨h.keep fun _ _ hk => hb.block _ hk, Only.of_below hb fun _ hk _ => hk⟩
set_option maxRecDepth 100000 in
set_option maxHeartbeats 1600000 in
theorem Put_any (h : Rep S w g N f) (hf : ∀ k, f k ≤ 2147483648) {cl x : Int} (t : ByteArray) (h0 : 0 ≤ cl) (h1 : cl < 64) (hx : 0 ≤ x) (hfx : x < f cl) :
    Calls Tryz.prog 42 #[.pointer (some ⟨g, 0, none⟩), .int .i64 cl, .int .i64 x, .string t] w fun e w' => RBool e ∧ Rep S w' g N f ∧ Only S w w' := by
  have hx2 : x < 2147483648 := by have := hf cl; omega
  have H := hid h
  have hst := hid (h.stay (Below.refl _ _))
  have hc := hid (rfind_any h hf h0 h1 hx hx2)
  have hkey : (Lit.int .i64 cl).wf = true := wf_i64 (by omega) (by omega)
  have HKEY := hid hkey
  have hmay := hid (rmay_any h0 h1 hx hx2 w)
  clear h h0 h1 hkey hx2
  by_cases ht : 4096 < (t.size : Int)
  · have d1 : decide (4096 < (t.size : Int)) = true := by simpa using ht
    go_enter Tryz.func42, Tryz.ntmps42
    go_wp2_with fail
    refine hmay.out.mono ?_
    rintro e w' ⟨rfl, rfl⟩
    go_wp2_with fail
    go_ret
    exact ⟨⟨_, rfl⟩, hst.out⟩
  have d1 : decide (4096 < (t.size : Int)) = false := by simpa using ht
  have d2 : decide (4096 < t.size) = false := by simp; omega
  go_enter Tryz.func42, Tryz.ntmps42
  go_wp2_with fail
  refine hmay.out.mono ?_
  rintro e w' ⟨rfl, rfl⟩
  go_wp2_with fail
  refine hc.out.mono ?_
  rintro e w1 ⟨b, tab, A, n, c, HK, Q1, hn4, Q3, ⟨i, t1, r1, r2, r3, rfl⟩, hb⟩
  have hstay := hid (H.out.stay hb)
  cases t1 with
  | false =>
    clear hb r2 r3
    go_wp2_with fail
    go_ret
    exact ⟨⟨_, rfl⟩, hstay.out⟩
  | true =>
    have hin := r2 rfl
    have hR1 := Q3.out.keep (w' := w1) fun k _ hk => hb.block k hk
    have hB1 : Blk w1 g 170 #[.int .i64 4, .map (some b)] := HK.out.1.below hb HK.out.1.lt
    have hM1 := HK.out.2.2.2.1.keep (w' := w1) (hb.block _ HK.out.2.2.2.1.lt)
    have hlk := hM1.look1 HKEY.out
    rw [Q1.out] at hlk
    have e1 : w1.cell? ⟨g, 1, none⟩ = some (.map (some b)) := (hB1.cell 1).trans rfl
    rcases hR1 with ⟨_, h, _⟩ | ⟨r, q, cur, rfl, m1, m2, m3, m4, m5, m6⟩
    · omega
    obtain ⟨id, b0, s0, u0, u1, u2, u3, u4⟩ := m6 i hin
    rw [show (q + i) * 3 = q * 3 + i * 3 by omega] at u0 u1 u2
    have v0 : w1.cell? ⟨r, q * 3 + i * 3, none⟩ = some (.int .i64 id) := (m2.cell _).trans u0
    have v1 : w1.cell? ⟨r, q * 3 + i * 3 + 1, none⟩ = some (.bool b0) := (m2.cell _).trans u1
    have v2 : w1.cell? ⟨r, q * 3 + i * 3 + 2, none⟩ = some (.string s0) := (m2.cell _).trans u2
    have f0 := m2.frozen (q * 3 + i * 3)
    have f1 := m2.frozen (q * 3 + i * 3 + 1)
    have f2 := m2.frozen (q * 3 + i * 3 + 2)
    have hkeep : ∀ k, k < w.heap.size → w1.heap[k]? = w.heap[k]? := fun k hk => hb.block k hk
    have HKW : Blk w1 g 170 #[.int .i64 4, .map (some b)] ∧ S g ∧ S b ∧ RMap w1 b N tab ∧ (∀ k, RV S w1 (tab k) (f k)) ∧ ∀ k k' r q n c q' n' c', tab k = some (r, q, n, c) → tab k' = some (r, q', n', c') → k = k' :=
      ⟨hB1, HK.out.2.1, HK.out.2.2.1, hM1, fun k => (HK.out.2.2.2.2.1 k).keep fun k _ hk => hkeep k hk, HK.out.2.2.2.2.2⟩
    have hend := hid (rep_put (x := x) (t := t) HKW Q1.out hn4 m1 m2 m3 m4 m5 m6 hin hx hfx)
    have hO := hid (And.intro hb hb.size)
    have hgl := hB1.lt
    clear hb r2 r3 HKW m1 m2 m3 m4 m5 m6 hB1 hM1 u0 u1 u2 u3 u4 hkeep
    cases b0 with
    | false =>
      go_wp2_with fail
      go_ret
      exact ⟨⟨_, rfl⟩, hstay.out⟩
    | true =>
      obtain ⟨o, ho⟩ : ∃ o, o = q * 3 + i * 3 := ⟨_, rfl⟩
      go_wp2_with fail
      go_ret
      refine ⟨⟨_, rfl⟩, hend.out.1, ?_⟩
      have h2 := hend.out.2
      exact ⟨h2.os.trans hO.out.1.os, h2.tape.trans hO.out.1.tape, h2.output.trans hO.out.1.output, Nat.le_trans hO.out.2 h2.size, fun k hk hs => (h2.block k (Nat.lt_of_lt_of_le hk hO.out.2) hs).trans (hO.out.1.block k hk)⟩
end
end Go.Proofs.YtopbojifllnckaaGreatDoor
namespace Go.Proofs.YtopbojifllnckaaGreatDoor
open Go.RowKit
open Go.ChangeMaps
attribute [local irreducible] wpQuiet
/-- How a text in a map reads: whichever. -/
def strE : Value → Option (DataW Unit × List MemPlace)
  | .string _ => some (.nil, [])
  | _ => none
theorem strE_inv {v : Value} {d : DataW Unit} {ps : List MemPlace} (h : strE v = some (d, ps)) : ∃ s, v = .string s := by
  unfold strE at h
  split at h
  · exact ⟨_, rfl⟩
  · cases h
theorem zero9 (w : World) : (zeroValue 9).run Tryz.prog w = .ok (.string ⟨#[]⟩) w := by kernel_rfl
/-- Block b is a map of at most n texts by numbers. -/
def SMap (w : World) (b n : Nat) : Prop := ∃ D : DataW Unit, w.ownsMap Tryz.prog 3 strE b n D ∧ Maps.IsMap D
section
variable {w w' : World} {b n : Nat}
theorem SMap.look (h : SMap w b n) {x : Int} (hx : (Lit.int .i64 x).wf = true) : ∃ s t, (Instr.lookup 280 (.map (some b)) (.int .i64 x) true).run Tryz.prog w = .ok (.tuple #[.string s, .bool t]) w := by
  obtain ⟨D, ho, _⟩ := h
  obtain ⟨v, ps, hr, hv⟩ := ho.look_ok (zd := .nil) (zp := []) keyed3 Tryz.underlying280 (zero9 w) rfl (wf_key3 hx)
  obtain ⟨s, rfl⟩ := strE_inv hv
  exact ⟨s, _, hr⟩
theorem SMap.put (h : SMap w b n) {x : Int} {s : ByteArray} (hx : (Lit.int .i64 x).wf = true) (hn : n < maxLen) :
    ∃ w', (Instr.mapUpdate 280 (.map (some b)) (.int .i64 x) (.string s)).run Tryz.prog w = .ok () w' ∧ SMap w' b (n + 1) ∧ w.grownBy w' (some b) := by
  obtain ⟨D, ho, hm⟩ := h
  obtain ⟨w', hr, ho', hg⟩ := ho.update (val := .string s) (d := .nil) (ps := []) keyed3 Tryz.underlying280 hn (wf_key3 hx) rfl
  exact ⟨w', hr, ⟨_, ho', hm.put _ _⟩, hg⟩
theorem SMap.clear (h : SMap w b n) (ty : TypeId) : ∃ w', (Builtin.clear_ #[280] ty #[.map (some b)]).run Tryz.prog w = .ok (.tuple #[]) w' ∧ SMap w' b 0 ∧ w.mapTurned w' b := by
  obtain ⟨D, ⟨es, clock, hb, _⟩, _⟩ := h
  refine ⟨setBlock w b (.map #[] clock), ?_, ⟨.map [], ⟨#[], clock, heap_setBlock_same hb _, ⟨by simp, Go.MapKept.stamped_empty clock, by simp⟩, Nat.le_refl _, rfl⟩, Maps.isMap_empty⟩, es, clock, #[], clock, hb, rfl⟩
  simp [Builtin.clear_, run_underlying Tryz.underlying280, MapKept.run_getObj_map hb, MapKept.run_setObj_map _ hb, Result.andThen, setBlock]
theorem SMap.keep (h : SMap w b n) (hk : w'.heap[b]? = w.heap[b]?) : SMap w' b n := by
  obtain ⟨D, ⟨es, clock, hb, hr⟩, h2⟩ := h
  exact ⟨D, ⟨es, clock, hk.trans hb, hr⟩, h2⟩
theorem SMap.lt (h : SMap w b n) : b < w.heap.size := by obtain ⟨D, ho, _⟩ := h; exact ho.lt
theorem SMap.more (h : SMap w b n) {m : Nat} (hm : n ≤ m) : SMap w b m := by obtain ⟨D, ho, h2⟩ := h; exact ⟨D, ho.mono hm, h2⟩
theorem SMap.ne (h : SMap w b n) {g : Nat} {t : TypeId} {cs : Array Value} (hg : Blk w g t cs) : g ≠ b := fun e => by
  obtain ⟨D, ⟨es, clock, hb, _⟩, _⟩ := h
  subst e
  rw [show w.heap[g]? = _ from hg] at hb
  cases hb
end
end Go.Proofs.YtopbojifllnckaaGreatDoor
namespace Go.Proofs.YtopbojifllnckaaGreatDoor
open Go.RowKit
open Go.ChangeMaps
attribute [local irreducible] wpQuiet
def strs (D : List ByteArray) : List Value := D.map Value.string
theorem strs_length (D : List ByteArray) : (strs D).length = D.length := by unfold strs; simp
/-- A device of the sectors D in blocks of S; at most n of them are loose. -/
def Dev (S : Nat → Prop) (w : World) (g : Nat) (D : List ByteArray) (n : Nat) : Prop :=
  ∃ r b, Blk w g 282 #[.slice (some ⟨r, 0, none⟩) D.length D.length, .map (some b), .bool false] ∧ Blk w r 9 (strs D).toArray ∧ S g ∧ S r ∧ S b ∧ SMap w b n
section
variable {S : Nat → Prop} {w w' : World} {g n : Nat} {D : List ByteArray}
theorem Dev.keep (h : Dev S w g D n) (hk : ∀ k, S k → k < w.heap.size → w'.heap[k]? = w.heap[k]?) : Dev S w' g D n := by
  obtain ⟨r, b, h1, h2, h3, h4, h5, h6⟩ := h
  exact ⟨r, b, (hk g h3 h1.lt).trans h1, (hk r h4 h2.lt).trans h2, h3, h4, h5, h6.keep (hk b h5 h6.lt)⟩
theorem Dev.mono {T : Nat → Prop} {m : Nat} (h : Dev S w g D n) (hST : ∀ k, S k → T k) (hm : n ≤ m) : Dev T w g D m := by
  obtain ⟨r, b, h1, h2, h3, h4, h5, h6⟩ := h
  exact ⟨r, b, h1, h2, hST _ h3, hST _ h4, hST _ h5, h6.more hm⟩
set_option maxRecDepth 100000 in
theorem check_ok (h : Dev S w g D n) (at_ k : Nat) (hk : 1 ≤ k) (hak : at_ + k ≤ D.length) (hD : D.length ≤ 100000) : Calls Tryz.prog 232 #[.pointer (some ⟨g, 0, none⟩), .int .i64 at_, .int .i64 k, .bool true] w fun e w' => e = .returned (.int .i64 0) ∧ w = w' := by
  obtain ⟨r, b, h1, h2, h3, h4, h5, h6⟩ := h
  have e0 : w.cell? ⟨g, 0, none⟩ = some (.slice (some ⟨r, 0, none⟩) D.length D.length) := (h1.cell 0).trans rfl
  have e2 : w.cell? ⟨g, 2, none⟩ = some (.bool false) := (h1.cell 2).trans rfl
  have d0 : decide ((at_ : Int) < 0) = false := by simp
  have d1 : decide ((k : Int) < 1) = false := by simp; omega
  have d2 : decide ((D.length : Int) < (at_ : Int)) = false := by simp; omega
  have d3 : decide ((D.length : Int) - (at_ : Int) < (k : Int)) = false := by simp; omega
  have q2 : at_ ≤ D.length := by omega
  have hb0 : (at_ : Int) ≤ 100000 := by omega
  have hb1 : (D.length : Int) ≤ 100000 := by omega
  generalize D.length = N at e0 d2 d3 hb1 q2
  clear h1 h2 h3 h4 h5 h6 hk hak hD
  go_enter Tryz.func232, Tryz.ntmps232
  go_wp2_with fail
  go_ret
  exact ⟨rfl, rfl⟩
set_option maxRecDepth 100000 in
theorem Flush_ok (h : Dev S w g D n) : Calls Tryz.prog 305 #[.pointer (some ⟨g, 0, none⟩)] w fun e w' => e = .returned (.tuple #[]) ∧ Dev S w' g D 0 ∧ Only S w w' ∧ w'.heap.size = w.heap.size := by
  obtain ⟨r, b, h1, h2, h3, h4, h5, h6⟩ := h
  have e1 : w.cell? ⟨g, 1, none⟩ = some (.map (some b)) := (h1.cell 1).trans rfl
  obtain ⟨w2, hc, hm, ht⟩ := h6.clear 0
  have hO : Only S w w2 ∧ w2.heap.size = w.heap.size ∧ w2.heap[g]? = w.heap[g]? ∧ w2.heap[r]? = w.heap[r]? := by
    obtain ⟨es, cl, es', cl', hb, rfl⟩ := ht
    refine ⟨⟨rfl, rfl, rfl, by simp [setBlock], fun k _ hk => heap_setBlock_other hb _ fun e => hk (e ▸ h5)⟩, by simp [setBlock], heap_setBlock_other hb _ (h6.ne h1), heap_setBlock_other hb _ (h6.ne h2)⟩
  have H : Hid (Dev S w2 g D 0 ∧ Only S w w2 ∧ w2.heap.size = w.heap.size) := ⟨⟨r, b, hO.2.2.1.trans h1, hO.2.2.2.trans h2, h3, h4, h5, hm⟩, hO.1, hO.2.1⟩
  clear h1 h2 h3 h4 h5 h6 hm ht hO
  go_enter Tryz.func305, Tryz.ntmps305
  go_wp2_with (rw [hc])
  exact bodyPost_end (v := .tuple #[]) (by simp [results, Tryz.results305, go_sem]) rfl ⟨rfl, H.out⟩
end
end Go.Proofs.YtopbojifllnckaaGreatDoor
namespace Go.Proofs.YtopbojifllnckaaGreatDoor
open Go.RowKit
open Go.ChangeMaps
attribute [local irreducible] wpQuiet
/-- The bytes of some sectors. -/
def secs (D : List ByteArray) (a k : Nat) : List UInt8 := (((D.drop a).take k).map (·.data.toList)).flatten
theorem secs_zero (D : List ByteArray) (a : Nat) : secs D a 0 = [] := by simp [secs]
theorem secs_succ (D : List ByteArray) (a k : Nat) {s : ByteArray} (h : D[a + k]? = some s) : secs D a (k + 1) = secs D a k ++ s.data.toList := by
  unfold secs
  have h1 : (D.drop a)[k]? = some s := by rw [List.getElem?_drop]; exact h
  rw [List.take_add_one, h1]
  simp
theorem secs_len {D : List ByteArray} (h64 : ∀ s ∈ D, s.size = 64) (a : Nat) : ∀ k, a + k ≤ D.length → (secs D a k).length = 64 * k
  | 0, _ => by rw [secs_zero]; rfl
  | k + 1, h => by
    have hs : D[a + k]? = some D[a + k] := List.getElem?_eq_getElem (by omega)
    rw [secs_succ D a k hs, List.length_append, secs_len h64 a k (by omega)]
    have : (D[a + k]).data.toList.length = 64 := h64 _ (List.getElem_mem _)
    omega
section
variable {S : Nat → Prop} {w w' : World} {g n : Nat} {D : List ByteArray}
/-- Where Read's loop stands. -/
def ReadRel (w wr : World) (D : List ByteArray) (a k : Nat) (v9 : Value) : Prop := wr.ownsRow w.heap.size 5 1 v9 (secs D a k).length (byc (secs D a k)) ∧ Below w.heap.size w wr
set_option maxRecDepth 100000 in
set_option maxHeartbeats 1600000 in
theorem Read_ok (h : Dev S w g D n) (a k : Nat) (hk : 1 ≤ k) (hak : a + k ≤ D.length) (hD : D.length ≤ 100000) (h64 : ∀ s ∈ D, s.size = 64) :
    Calls Tryz.prog 173 #[.pointer (some ⟨g, 0, none⟩), .int .i64 a, .int .i64 k] w fun e w' => e = .returned (.tuple #[.string ⟨(secs D a k).toArray⟩, .int .i64 0]) ∧ Below w.heap.size w w' := by
  have hc := hid (check_ok h a k hk hak hD)
  obtain ⟨r, b, h1, h2, h3, h4, h5, h6⟩ := h
  have e0 : w.cell? ⟨g, 0, none⟩ = some (.slice (some ⟨r, 0, none⟩) D.length D.length) := (h1.cell 0).trans rfl
  have H := hid (And.intro h2 (And.intro hk (And.intro hak (And.intro hD h64))))
  have hrl := h2.lt
  have q0 : (0 : Int) ≤ (a : Int) := by omega
  have q1 : (0 : Int) ≤ (k : Int) := by omega
  have q2 : (a : Int) + (k : Int) ≤ 100000 := by omega
  have q3 : (a : Int) + (k : Int) ≤ (D.length : Int) := by omega
  have q4 : (a : Int) ≤ (a : Int) + (k : Int) := by omega
  have q5 : (k : Int) * 64 ≤ 6400000 := by omega
  have hne : ¬ D.length = a := by omega
  clear h1 h2 h3 h4 h5 h6 hk hak hD h64
  go_enter Tryz.func173, Tryz.ntmps173
  go_wp2_with fail
  refine hc.out.mono ?_
  rintro e w1 ⟨rfl, rfl⟩
  clear hc
  obtain ⟨i5, hi5, hzz⟩ := Option.map_eq_some_iff.1 info5
  simp only [Prod.mk.injEq] at hzz
  obtain ⟨hz0, hz1, hz2⟩ := hzz
  obtain ⟨w2, hmk, ho, hg⟩ := run_makeSlice_owned (P := Tryz.prog) (w := w) w.heap.size 172 5 i5 (.int .u8 0) 1 Tryz.underlying172 hi5 hz0 hz1 .i64 .i64 (k * 64) (by omega) (by rw [hz2]; omega) (by unfold maxLen; omega) (Nat.le_refl _)
  have hmk' : (Instr.makeSlice 172 (.int .i64 0) (.int .i64 ((k : Int) * 64))).run Tryz.prog w = .ok (.slice (some ⟨w.heap.size, 0, none⟩) 0 (k * 64)) w2 := by
    rw [← hmk]
    congr 3
  have e0' : w2.cell? ⟨g, 0, none⟩ = some (.slice (some ⟨r, 0, none⟩) D.length D.length) := (World.cell?_of_block (hg.block g (World.block_lt_of_cell? w _ e0) (by simp))).trans e0
  have hr2 : Blk w2 r 9 (strs D).toArray := (hg.block r hrl (by simp)).trans H.out.1
  have HO := hid (And.intro ho (And.intro (below_grown (e := 5) (size := 1) (World.ownsRow_nil _ _ _ _) hg (Nat.le_refl _)) hr2))
  clear ho hg hmk
  have hab := HO.out.2.1.size
  have hc0 : (a : Int) + (k : Int) ≤ (D.length : Int) := q3
  go_wp2_with (rw [hmk'])
  rw [show a + k - a = k by omega]
  go_loopw [9, 11, 32] (fun v9 _ v32 wr => ∃ j : Nat, j ≤ k ∧ v32 = .int .i64 j ∧ Hid (ReadRel w wr D a j v9)) (fun _ _ v32 _ => k - (intOf v32).toNat)
  case atStart => exact ⟨0, Nat.zero_le _, rfl, by rw [secs_zero]; exact HO.out.1, HO.out.2.1⟩
  case round =>
    obtain ⟨j, hj, rfl, hI⟩ := hrel
    by_cases hjk : j < k
    · have hjD : a + j < D.length := by have := H.out.2.2.1; omega
      obtain ⟨s, hs⟩ : ∃ s, D[a + j]? = some s := ⟨_, List.getElem?_eq_getElem hjD⟩
      have hr3 : Blk wr r 9 (strs D).toArray := H.out.1.below hI.out.2 hrl
      have e2 : wr.cell? ⟨r, a + j, none⟩ = some (.string s) := by rw [hr3.cell]; simp [strs, hs]
      have hs64 : s.size = 64 := H.out.2.2.2.2 s (List.mem_of_getElem? hs)
      have hlen : (secs D a j).length ≤ 64 * j := Nat.le_of_eq (secs_len H.out.2.2.2.2 a j (by omega))
      have HS := hid (And.intro hs (And.intro hs64 hlen))
      have h0j : (0 : Int) ≤ (j : Int) := by omega
      have hjk2 : (j : Int) < (k : Int) := by omega
      clear hr3 hs hs64 hlen
      go_wp2_with (at_builtin; go_must (refine Lib.wpList_append_own_string _ rfl (.tmp 36) (.tmp 37) 172 9 rfl w.heap.size 5 i5 Tryz.underlying172 Tryz.underlying9 hi5 hz0 hz1 hz2 u9 (secs D a j).length (byc (secs D a j)) rfl hI.out.1 s rfl (by have := HS.out.2; unfold maxLen; omega) (by have := HS.out.2; omega) hI.out.2.size ?_); intro v' w4 h5 h6 h7; have H5 := hid h5; have H6 := hid h6; clear h5 h6 h7)
      go_roundw
      case rel =>
        refine ⟨j + 1, by omega, by go_num, ?_, hI.out.2.trans (below_grown hI.out.1 H6.out hI.out.2.size)⟩
        rw [secs_succ D a j HS.out.1, List.length_append, byc_append]
        exact H5.out
      case measure => simp [intOf]; omega
    · obtain rfl : j = k := by omega
      have hl : 0 < (secs D a j).length := by rw [secs_len H.out.2.2.2.2 a j H.out.2.2.1]; have := H.out.2.1; omega
      obtain ⟨g9, c9, rfl, hcv⟩ := own_string hI.out.1 hl
      have HB := hid hI.out.2
      clear hI hl
      go_wp2_with fail
      go_ret2
      exact ⟨rfl, HB.out⟩
end
end Go.Proofs.YtopbojifllnckaaGreatDoor
namespace Go.Proofs.YtopbojifllnckaaGreatDoor
open Go.RowKit
open Go.ChangeMaps
attribute [local irreducible] wpQuiet
/-- The sectors when i of a text's were written from a on. -/
def wrD (D : List ByteArray) (a : Nat) (s : ByteArray) : Nat → List ByteArray
  | 0 => D
  | i + 1 => (wrD D a s i).set (a + i) (s.extract (i * 64) ((i + 1) * 64))
theorem wrD_length (D : List ByteArray) (a : Nat) (s : ByteArray) : ∀ i, (wrD D a s i).length = D.length
  | 0 => rfl
  | i + 1 => by rw [wrD, List.length_set, wrD_length]
theorem wpList_sput {w : World} {b n : Nat} {ops : Array Oper} {rest : List Oper} {o : Oper} {a : Act} {Q : Exit → Act → World → Prop} (hg : o.guard = none) (m x v : Operand) (hop : o.op = Op.mapUpdate 280 m x v)
    (hm : a.eval m = .map (some b)) (hown : SMap w b n) (hn : n < maxLen) (key : Int) (hx : a.eval x = .int .i64 key) (hkey : (Lit.int .i64 key).wf = true) (s : ByteArray) (hv : a.eval v = .string s)
    (hK : ∀ w', SMap w' b (n + 1) → w.grownBy w' (some b) → wpList Tryz.prog ops Q rest (a.put o.dst undef) w') :
    wpList Tryz.prog ops Q (o :: rest) a w := by
  refine wpList_plain hg fun K' hK' => ?_
  obtain ⟨w', hrun, r1, r2⟩ := hown.put (s := s) hkey hn
  unfold Oper.wp
  simp [execOp, hop, hm, hx, hv, hrun, Result.andThen]
  exact hK' _ _ (hK w' r1 r2)
structure DevAt (S : Nat → Prop) (w : World) (g r b : Nat) (D : List ByteArray) (n : Nat) : Prop where
  blk : Blk w g 282 #[.slice (some ⟨r, 0, none⟩) D.length D.length, .map (some b), .bool false]
  row : Blk w r 9 (strs D).toArray
  sg : S g
  sr : S r
  sb : S b
  map : SMap w b n
section
variable {S : Nat → Prop} {w w' : World} {g r b n : Nat} {D : List ByteArray}
theorem DevAt.dev (h : DevAt S w g r b D n) : Dev S w g D n := ⟨r, b, h.blk, h.row, h.sg, h.sr, h.sb, h.map⟩
theorem DevAt.put (h : DevAt S w g r b D n) {m : Nat} (hm : SMap w' b m) (hg : w.grownBy w' (some b)) : DevAt S w' g r b D m ∧ Only S w w' := by
  refine ⟨⟨(hg.block g h.blk.lt (by simpa using h.map.ne h.blk)).trans h.blk, (hg.block r h.row.lt (by simpa using h.map.ne h.row)).trans h.row, h.sg, h.sr, h.sb, hm⟩, hg.os, hg.tape, hg.output, hg.size, fun k hk hs => hg.block k hk ?_⟩
  intro e
  cases e
  exact hs h.sb
theorem DevAt.drewN (h : DevAt S w g r b D n) (q : Nat) : DevAt S (w.drewN q) g r b D n := ⟨h.blk, h.row, h.sg, h.sr, h.sb, h.map.keep rfl⟩
theorem DevAt.set (h : DevAt S w g r b D n) (i : Nat) (s : ByteArray) : DevAt S (w.setCell ⟨r, i, none⟩ (.string s)) g r b (D.set i s) n := by
  have hgr : g ≠ r := h.blk.ne_ h.row (by decide)
  refine ⟨?_, ?_, h.sg, h.sr, h.sb, h.map.keep (Below.heap_setCell w ⟨r, i, none⟩ _ b (fun e => h.map.ne h.row (by rw [e])))⟩
  · rw [List.length_set]
    exact h.blk.far (p := ⟨r, i, none⟩) hgr _
  · have := h.row.set_ i (.string s)
    simpa [strs, List.map_set] using this
/-- Where Write's loop stands. -/
def WriteRel (S : Nat → Prop) (w wr : World) (g r b : Nat) (D : List ByteArray) (n : Nat) : Prop := DevAt S wr g r b D n ∧ Only S w wr
set_option maxRecDepth 100000 in
set_option maxHeartbeats 1600000 in
theorem Write_ok (h : Dev S w g D n) (a k : Nat) (s : ByteArray) (hs : s.size = k * 64) (hk : 1 ≤ k) (hak : a + k ≤ D.length) (hD : D.length ≤ 100000) (hn : n ≤ 100000) :
    Calls Tryz.prog 304 #[.pointer (some ⟨g, 0, none⟩), .int .i64 a, .string s] w fun e w' => e = .returned (.int .i64 0) ∧ Dev S w' g (wrD D a s k) (n + k) ∧ Only S w w' := by
  have hc := hid (check_ok h a k hk hak hD)
  obtain ⟨r, b, h1, h2, h3, h4, h5, h6⟩ := h
  have hA : Hid (DevAt S w g r b D n) := ⟨h1, h2, h3, h4, h5, h6⟩
  have H := hid (And.intro hk (And.intro hak (And.intro hD hn)))
  have HSZ := hid hs
  have q0 : Int.tdiv (s.size : Int) 64 = (k : Int) := by rw [hs, Int.tdiv_eq_ediv_of_nonneg (by omega)]; omega
  have q1 : Int.tmod (s.size : Int) 64 = 0 := by rw [hs, Int.tmod_eq_emod_of_nonneg (by omega)]; omega
  have q3 : (a : Int) + (k : Int) ≤ 100000 := by omega
  have hk64 : k * 64 = s.size := hs.symm
  clear h1 h2 h3 h4 h5 h6 hk hak hD hn hs
  go_enter Tryz.func304, Tryz.ntmps304
  go_wp2_with fail
  refine hc.out.mono ?_
  rintro e w1 ⟨rfl, rfl⟩
  clear hc
  go_wp2_with fail
  go_loopw [9, 10, 11, 12, 28] (fun _ _ _ _ v28 wr => ∃ i : Nat, i ≤ k ∧ v28 = .int .i64 i ∧ Hid (WriteRel S w wr g r b (wrD D a s i) (n + i))) (fun _ _ _ _ v28 _ => k - (intOf v28).toNat)
  case atStart => exact ⟨0, Nat.zero_le _, rfl, hA.out, Only.refl _ _⟩
  case round =>
    obtain ⟨i, hi, rfl, hI⟩ := hrel
    by_cases hik : i < k
    · have e1 : wr.cell? ⟨g, 1, none⟩ = some (.map (some b)) := (hI.out.1.blk.cell 1).trans rfl
      have e0 : wr.cell? ⟨g, 0, none⟩ = some (.slice (some ⟨r, 0, none⟩) D.length D.length) := by rw [hI.out.1.blk.cell, ← wrD_length D a s i]; rfl
      have hai : a + i < (wrD D a s i).length := by rw [wrD_length]; have := H.out.2.1; omega
      obtain ⟨t, ht⟩ : ∃ t, (wrD D a s i)[a + i]? = some t := ⟨_, List.getElem?_eq_getElem hai⟩
      have HT := hid ht
      have e2 : wr.cell? ⟨r, a + i, none⟩ = some (.string t) := by rw [hI.out.1.row.cell]; simp [strs, ht]
      obtain ⟨t0, tt, hlk⟩ := hI.out.1.map.look (x := (a : Int) + (i : Int)) (wf_i64 (by omega) (by omega))
      have hD0 := H.out.2.1
      have h0i : (0 : Int) ≤ (i : Int) := by omega
      have h0a : (0 : Int) ≤ (a : Int) := by omega
      have hik2 : (i : Int) < (k : Int) := by omega
      have hlt : (a : Int) + (i : Int) < (D.length : Int) := by omega
      have hs0 : (0 : Int) ≤ (i : Int) * 64 := by omega
      have hs4 : (i : Int) ≤ (i : Int) + 1 := by omega
      have hs3 : (0 : Int) ≤ ((i : Int) + 1) * 64 := by omega
      have h0ai : (0 : Int) ≤ (a : Int) + (i : Int) := by omega
      have wr1 : IntKind.i64.wrap ((i : Int) * 64) = (i : Int) * 64 := by rw [IntKind.wrap_i64]; omega
      have wr2 : IntKind.i64.wrap ((i : Int) + 1) = (i : Int) + 1 := by rw [IntKind.wrap_i64]; omega
      have wr3 : IntKind.i64.wrap (((i : Int) + 1) * 64) = ((i : Int) + 1) * 64 := by rw [IntKind.wrap_i64]; omega
      have tn1 : ((i : Int) * 64).toNat = i * 64 := by omega
      have tn2 : (((i : Int) + 1) * 64).toNat = (i + 1) * 64 := by omega
      have tn3 : ((a : Int) + (i : Int)).toNat = a + i := by omega
      have hs1 : (i : Int) * 64 ≤ ((i : Int) + 1) * 64 := by omega
      have hs2 : ((i : Int) + 1) * 64 ≤ (s.size : Int) := by omega
      have hgl := hI.out.1.blk.lt
      clear hai ht
      cases tt with
      | true =>
        have HDX : Hid (DevAt S wr g r b (wrD D a s i) (n + (i + 1)) ∧ Only S w wr) := ⟨⟨hI.out.1.blk, hI.out.1.row, hI.out.1.sg, hI.out.1.sr, hI.out.1.sb, hI.out.1.map.more (by omega)⟩, hI.out.2⟩
        clear e0 e2
        have e0W : wr.cell? ⟨g, 0, none⟩ = some (.slice (some ⟨r, 0, none⟩) D.length D.length) := by rw [HDX.out.1.blk.cell, ← wrD_length D a s i]; rfl
        have z0 : wr.cell? ⟨r, a + i, none⟩ = some (.string t) := by rw [HDX.out.1.row.cell]; simp [strs, HT.out]
        have u0 := HDX.out.1.row.frozen (a + i)
        have hgW := HDX.out.1.blk.lt
        go_upto_region 12 with (fail)
        go_still_tail 13, (by kernel_rfl)
        change wpList _ _ _ _ _ (wr.drewN 1)
        go_wp2_with fail
        go_roundw
        case rel =>
          refine ⟨i + 1, by omega, by go_num, ?_, ?_⟩
          · exact (HDX.out.1.drewN 1).set (a + i) _
          · exact setS (S := S) HDX.out.1.sr _ _ (HDX.out.2.drewN 1)
        case measure => simp [intOf]; omega
      | false =>
        go_upto_region 11 with (fail)
        go_still_tail 12, (by kernel_rfl)
        change wpList _ _ _ _ _ (wr.drewN 1)
        refine wpList_sput (b := b) (n := n + i) rfl (.tmp 48) (.tmp 49) (.tmp 56) rfl rfl (hI.out.1.map.keep rfl) (by have := H.out.2.2.2; unfold maxLen; omega) ((a : Int) + (i : Int)) rfl (wf_i64 (by omega) (by omega)) t rfl ?_
        intro w2 hm2 hg2
        have hP := (hI.out.1.drewN 1).put hm2 hg2
        have HDX : Hid (DevAt S w2 g r b (wrD D a s i) (n + (i + 1)) ∧ Only S w w2) := ⟨hP.1, (hI.out.2.drewN 1).trans hP.2⟩
        clear hP hm2 hg2 e0 e1 e2 hgl hlk
        have e0W : w2.cell? ⟨g, 0, none⟩ = some (.slice (some ⟨r, 0, none⟩) D.length D.length) := by rw [HDX.out.1.blk.cell, ← wrD_length D a s i]; rfl
        have z0 : w2.cell? ⟨r, a + i, none⟩ = some (.string t) := by rw [HDX.out.1.row.cell]; simp [strs, HT.out]
        have u0 := HDX.out.1.row.frozen (a + i)
        have hgW := HDX.out.1.blk.lt
        go_upto_region 12 with (fail)
        go_still_tail 13, (by kernel_rfl)
        change wpList _ _ _ _ _ (w2.drewN 1)
        go_wp2_with fail
        go_roundw
        case rel =>
          refine ⟨i + 1, by omega, by go_num, ?_, ?_⟩
          · exact (HDX.out.1.drewN 1).set (a + i) _
          · exact setS (S := S) HDX.out.1.sr _ _ (HDX.out.2.drewN 1)
        case measure => simp [intOf]; omega
    · obtain rfl : i = k := by omega
      have HI := hid (And.intro hI.out.1.dev hI.out.2)
      clear hI
      go_wp2_with fail
      go_ret
      exact ⟨rfl, HI.out⟩
end
end Go.Proofs.YtopbojifllnckaaGreatDoor
namespace Go.Proofs.YtopbojifllnckaaGreatDoor
open Go.RowKit
attribute [local irreducible] wpQuiet
theorem run_four {P : Program} (src dst e : TypeId) (hs : P.underlying src = some (.slice e)) (he : P.underlying e = some (.int .u8)) (hd : P.underlying dst = some .string) (a b c d : Int) (w : World) :
    (convert src dst (.slice (some ⟨w.heap.size, 0, none⟩) 4 4)).run P (w.alloc (.cells #[.int .u8 a, .int .u8 b, .int .u8 c, .int .u8 d] e)) =
      .ok (.string (strOfNums [a, b, c, d])) (w.alloc (.cells #[.int .u8 a, .int .u8 b, .int .u8 c, .int .u8 d] e)) := by
  refine run_convert_bytes_arg _ src e hs he w.heap.size 0 4 4 [a, b, c, d] rfl (fun i hi => ?_) dst hd
  rw [(Blk.new w e #[.int .u8 a, .int .u8 b, .int .u8 c, .int .u8 d]).cell]
  match i, hi with
  | 0, _ => rfl
  | 1, _ => rfl
  | 2, _ => rfl
  | 3, _ => rfl
def fourS (n : BitVec 32) : ByteArray := ⟨(fourB n).toArray⟩
theorem fourS_size (n : BitVec 32) : (fourS n).size = 4 := rfl
theorem four_str (x : BitVec 32) : strOfNums [U x % 256, U x / 256 % 256, U x / 65536 % 256, U x / 16777216 % 256] = fourS x := by
  have key : ∀ n : Nat, UInt8.ofNat ((n : Int) % 256).toNat = UInt8.ofNat n := by
    intro n
    apply UInt8.toNat_inj.1
    rw [show ((n : Int) % 256).toNat = n % 256 by omega]
    simp
  have k0 : U x % 256 = ((x.toNat : Nat) : Int) % 256 := rfl
  have k1 : U x / 256 % 256 = ((x.toNat / 256 : Nat) : Int) % 256 := by unfold U; omega
  have k2 : U x / 65536 % 256 = ((x.toNat / 65536 : Nat) : Int) % 256 := by unfold U; omega
  have k3 : U x / 16777216 % 256 = ((x.toNat / 16777216 : Nat) : Int) % 256 := by unfold U; omega
  rw [k0, k1, k2, k3]
  simp only [strOfNums, List.map_cons, List.map_nil, key, fourS, fourB]
set_option maxHeartbeats 400000 in
theorem four_any (x : BitVec 32) (w : World) :
    Calls Tryz.prog 286 #[.int .u32 (U x)] w fun e w' => e = .returned (.string (fourS x)) ∧ Below w.heap.size w w' := by
  have hcv := fun a b c d => run_four (P := Tryz.prog) 172 9 5 Tryz.underlying172 Tryz.underlying5 Tryz.underlying9 a b c d w
  go_enter Tryz.func286, Tryz.ntmps286
  go_wp2
  go_ret
  exact ⟨by rw [← four_str]; rfl, (Below.refl _ _).alloc (Nat.le_refl _) _⟩
set_option maxHeartbeats 400000 in
theorem ffour_any (x : BitVec 32) (w : World) :
    Calls Tryz.prog 295 #[.int .u32 (U x)] w fun e w' => e = .returned (.string (fourS x)) ∧ Below w.heap.size w w' := by
  have hcv := fun a b c d => run_four (P := Tryz.prog) 172 9 5 Tryz.underlying172 Tryz.underlying5 Tryz.underlying9 a b c d w
  go_enter Tryz.func295, Tryz.ntmps295
  go_wp2
  go_ret
  exact ⟨by rw [← four_str]; rfl, (Below.refl _ _).alloc (Nat.le_refl _) _⟩
theorem sum_any (s : ByteArray) (w : World) (hs : s.size ≤ 100000) : Calls Tryz.prog 287 #[.string s] w fun e w' => e = .returned (.int .u32 (U (sumB s.data.toList))) ∧ w = w' := by
  have hc := hid (more_any 0#32 s w (by omega))
  go_enter Tryz.func287, Tryz.ntmps287
  go_wp2_with fail
  refine (show Calls Tryz.prog 324 #[.int .u32 0, .string s] w _ from hc.out).mono ?_
  rintro e w' ⟨rfl, rfl⟩
  go_wp2_with fail
  go_ret
  exact ⟨rfl, rfl⟩
def sealS (s : ByteArray) : ByteArray := s ++ fourS (sumB s.data.toList)
theorem seal_any (s : ByteArray) (w : World) (hs : s.size ≤ 100000) : Calls Tryz.prog 221 #[.string s] w fun e w' => e = .returned (.string (sealS s)) ∧ Below w.heap.size w w' := by
  have hc := hid (sum_any s w hs)
  have hc2 := hid (four_any (sumB s.data.toList) w)
  have hsz : s.size + 4 ≤ 200000 := by omega
  have h4 := fourS_size (sumB s.data.toList)
  clear hs
  go_enter Tryz.func221, Tryz.ntmps221
  go_wp2_with fail
  refine hc.out.mono ?_
  rintro e w' ⟨rfl, rfl⟩
  go_wp2_with fail
  refine hc2.out.mono ?_
  rintro e w' ⟨rfl, hb⟩
  have HB := hid hb
  clear hb
  go_wp2_with fail
  go_ret
  exact ⟨rfl, HB.out⟩
end Go.Proofs.YtopbojifllnckaaGreatDoor
namespace Go.Proofs.YtopbojifllnckaaGreatDoor
open Go.RowKit
attribute [local irreducible] wpQuiet
def zeroS (n : Nat) : ByteArray := ⟨(List.replicate n (0 : UInt8)).toArray⟩
theorem zeroS_size (n : Nat) : (zeroS n).size = n := by simp [zeroS, ByteArray.size]
theorem repeat_zero : ∀ n, Lib.repeatL [(0 : UInt8)] n = List.replicate n 0
  | 0 => rfl
  | n + 1 => by
    show (0 : UInt8) :: Lib.repeatL [0] n = _
    rw [repeat_zero n]
    rfl
theorem zeros_ok (n : Nat) (hn : n ≤ 65536) (w : World) : Calls Tryz.prog 176 #[.int .i64 n] w fun e w' => e = .returned (.string (zeroS n)) ∧ Below w.heap.size w w' := by
  have hc := hid (sh_strings_Repeat ⟨#[0]⟩ n w (by omega) (by show 1 * n ≤ _; omega))
  go_enter Tryz.func176, Tryz.ntmps176
  go_wp2_with fail
  refine hc.out.mono ?_
  rintro e w' ⟨rfl, hb⟩
  have HB := hid hb
  clear hb
  go_wp2_with fail
  go_ret
  exact ⟨by unfold zeroS; rw [← repeat_zero]; rfl, HB.out⟩
def padS (s : ByteArray) (n : Nat) : ByteArray := s ++ zeroS (n - s.size)
theorem padS_size (s : ByteArray) (n : Nat) (h : s.size ≤ n) : (padS s n).size = n := by unfold padS; rw [ByteArray.size_append, zeroS_size]; omega
theorem Pad_ok (s : ByteArray) (n : Nat) (h : s.size ≤ n) (hn : n ≤ 65536) (w : World) : Calls Tryz.prog 109 #[.string s, .int .i64 n] w fun e w' => e = .returned (.tuple #[.string (padS s n), .int .i64 0]) ∧ Below w.heap.size w w' := by
  have hc := hid (zeros_ok (n - s.size) (by omega) w)
  have e0 : (n : Int) - (s.size : Int) = ((n - s.size : Nat) : Int) := by omega
  have d0 : decide ((n : Int) < 0) = false := by simp
  have d1 : decide ((65536 : Int) < (n : Int)) = false := by simp; omega
  have d2 : decide ((n : Int) < (s.size : Int)) = false := by simp; omega
  have q1 : (n : Int) ≤ 65536 := by omega
  have q2 : (s.size : Int) ≤ (n : Int) := by omega
  have q3 : s.size ≤ n := h
  have q4 : n ≤ 65536 := hn
  have hz := zeroS_size (n - s.size)
  clear h hn
  go_enter Tryz.func109, Tryz.ntmps109
  go_wp2_with fail
  refine hc.out.mono ?_
  rintro e w' ⟨rfl, hb⟩
  have HB := hid hb
  clear hb
  go_wp2_with fail
  go_ret2
  exact ⟨rfl, HB.out⟩
end Go.Proofs.YtopbojifllnckaaGreatDoor
