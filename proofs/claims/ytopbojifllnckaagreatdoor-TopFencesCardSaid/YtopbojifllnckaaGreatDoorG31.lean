/- replies: Put. The manager in memory. The manager: drop, grant, free, close, fail. The manager: close, fail, free. -/
import Derived.StillTailTactics
import Derived.Deep.DeepCutAuto
import Derived.Test.YtopbojifllnckaaGreatDoorG30
namespace Go.Proofs.YtopbojifllnckaaGreatDoor
open Go.RowKit
attribute [local irreducible] wpQuiet
section
variable {S : Nat → Prop} {w w1 : World} {g N : Nat} {f : Int → Int}
theorem rep_put {b : Nat} {tab : Int → Option Row4} {r q n c i : Nat} {cur : Array Value} {cl x : Int} {t : ByteArray}
    (HK : Blk w g 170 #[.int .i64 4, .map (some b)] ∧ S g ∧ S b ∧ RMap w b N tab ∧ (∀ k, RV S w (tab k) (f k)) ∧ ∀ k k' r q n c q' n' c', tab k = some (r, q, n, c) → tab k' = some (r, q', n', c') → k = k')
    (hq : sOf (tab cl) = .slice (some ⟨r, q * 3, none⟩) n c) (hn4 : n ≤ 4) (hsr : S r) (hr : Blk w r 191 cur) (hnc : n ≤ c) (hcm : c ≤ maxLen) (hcs : cur.size = (q + c) * 3) (hent : ∀ j < n, Ent3 cur ((q + j) * 3) (f cl)) (hi : i < n) (hx : 0 ≤ x) (hx2 : x < f cl) :
    Rep S (((w.setCell ⟨r, q * 3 + i * 3, none⟩ (.int .i64 x)).setCell ⟨r, q * 3 + i * 3 + 1, none⟩ (.bool false)).setCell ⟨r, q * 3 + i * 3 + 2, none⟩ (.string t)) g N f ∧ Only S w (((w.setCell ⟨r, q * 3 + i * 3, none⟩ (.int .i64 x)).setCell ⟨r, q * 3 + i * 3 + 1, none⟩ (.bool false)).setCell ⟨r, q * 3 + i * 3 + 2, none⟩ (.string t)) := by
  obtain ⟨k1, k2, k3, k4, k5, k6⟩ := HK
  obtain ⟨o, ho⟩ : ∃ o, o = q * 3 + i * 3 := ⟨_, rfl⟩
  rw [← ho]
  have hother : ∀ k, k ≠ r → (((w.setCell ⟨r, o, none⟩ (.int .i64 x)).setCell ⟨r, o + 1, none⟩ (.bool false)).setCell ⟨r, o + 2, none⟩ (.string t)).heap[k]? = w.heap[k]? := fun k hne =>
    ((Below.heap_setCell _ ⟨r, o + 2, none⟩ _ k hne).trans (Below.heap_setCell _ ⟨r, o + 1, none⟩ _ k hne)).trans (Below.heap_setCell w ⟨r, o, none⟩ _ k hne)
  have hb1 := ((hr.set_ o (.int .i64 x)).set_ (o + 1) (.bool false)).set_ (o + 2) (.string t)
  have hgr : g ≠ r := k1.ne_ hr (by decide)
  have hbr : b ≠ r := Ne.symm (k4.ne hr)
  refine ⟨⟨b, tab, (hother g hgr).trans k1, k2, k3, k4.keep (hother b hbr), fun k => ?_, k6⟩, ?_⟩
  · by_cases hk : k = cl
    · subst hk
      refine ⟨_, n, c, hq, hn4, .inr ⟨r, q, _, rfl, hsr, hb1, hnc, hcm, by simpa using hcs, fun j hj => ?_⟩⟩
      by_cases hji : j = i
      · subst hji
        rw [show (q + j) * 3 = o by omega]
        refine ⟨x, false, t, ?_, ?_, ?_, hx, hx2⟩
        · simp [Array.getElem?_setIfInBounds]; omega
        · simp [Array.getElem?_setIfInBounds]; omega
        · simp [Array.getElem?_setIfInBounds]; omega
      · refine ent3_old (hent j hj) (Int.le_refl _) fun k hk => ?_
        have q1 : o ≠ (q + j) * 3 + k := by omega
        have q2 : o + 1 ≠ (q + j) * 3 + k := by omega
        have q3 : o + 2 ≠ (q + j) * 3 + k := by omega
        simp [q1, q2, q3]
    · obtain ⟨A2, n2, c2, e1, e2, e3⟩ := k5 k
      refine ⟨A2, n2, c2, e1, e2, ?_⟩
      rcases e3 with h | ⟨r3, q3, cur3, rfl, h2', h3, h4⟩
      · exact .inl h
      · have ht := sOf_some e1
        have hne : r3 ≠ r := fun e => by
          subst e
          exact hk (k6 _ _ _ _ _ _ _ _ _ ht (sOf_some hq))
        exact .inr ⟨r3, q3, cur3, rfl, h2', (hother r3 hne).trans h3, h4⟩
  · exact setS hsr _ _ (setS hsr _ _ (setS hsr _ _ (Only.refl _ _)))
theorem Rep.stay (h : Rep S w g N f) (hb : Below w.heap.size w w1) : Rep S w1 g N f ∧ Only S w w1 := ⟨h.keep fun _ _ hk => hb.block _ hk, Only.of_below hb fun _ hk _ => hk⟩
set_option maxRecDepth 100000 in
set_option maxHeartbeats 1600000 in
theorem Put_any (h : Rep S w g N f) (hf : ∀ k, f k ≤ 2147483648) {cl x : Int} (t : ByteArray) (h0 : 0 ≤ cl) (h1 : cl < 64) (hx : 0 ≤ x) (hfx : x < f cl) :
    Calls Tryz.prog 42 #[.pointer (some ⟨g, 0, none⟩), .int .i64 cl, .int .i64 x, .string t] w fun e w' => RBool e ∧ Rep S w' g N f ∧ Only S w w' := by
  have hx2 : x < 2147483648 := by have := hf cl; omega
  have H := hid h
  have hst := hid (h.stay (Below.refl _ _))
  have hc := hid (rfind_any h hf h0 h1 hx hx2)
  have hkey : (Lit.int .i64 cl).wf = true := wf_i64 (by omega) (by omega)
  have HKEY := hid hkey
  have hmay := hid (rmay_any h0 h1 hx hx2 w)
  clear h h0 h1 hkey hx2
  by_cases ht : 4096 < (t.size : Int)
  · have d1 : decide (4096 < (t.size : Int)) = true := by simpa using ht
    go_enter Tryz.func42, Tryz.ntmps42
    go_wp2_with fail
    refine hmay.out.mono ?_
    rintro e w' ⟨rfl, rfl⟩
    go_wp2_with fail
    go_ret
    exact ⟨⟨_, rfl⟩, hst.out⟩
  have d1 : decide (4096 < (t.size : Int)) = false := by simpa using ht
  have d2 : decide (4096 < t.size) = false := by simp; omega
  go_enter Tryz.func42, Tryz.ntmps42
  go_wp2_with fail
  refine hmay.out.mono ?_
  rintro e w' ⟨rfl, rfl⟩
  go_wp2_with fail
  refine hc.out.mono ?_
  rintro e w1 ⟨b, tab, A, n, c, HK, Q1, hn4, Q3, ⟨i, t1, r1, r2, r3, rfl⟩, hb⟩
  have hstay := hid (H.out.stay hb)
  cases t1 with
  | false =>
    clear hb r2 r3
    go_wp2_with fail
    go_ret
    exact ⟨⟨_, rfl⟩, hstay.out⟩
  | true =>
    have hin := r2 rfl
    have hR1 := Q3.out.keep (w' := w1) fun k _ hk => hb.block k hk
    have hB1 : Blk w1 g 170 #[.int .i64 4, .map (some b)] := HK.out.1.below hb HK.out.1.lt
    have hM1 := HK.out.2.2.2.1.keep (w' := w1) (hb.block _ HK.out.2.2.2.1.lt)
    have hlk := hM1.look1 HKEY.out
    rw [Q1.out] at hlk
    have e1 : w1.cell? ⟨g, 1, none⟩ = some (.map (some b)) := (hB1.cell 1).trans rfl
    rcases hR1 with ⟨_, h, _⟩ | ⟨r, q, cur, rfl, m1, m2, m3, m4, m5, m6⟩
    · omega
    obtain ⟨id, b0, s0, u0, u1, u2, u3, u4⟩ := m6 i hin
    rw [show (q + i) * 3 = q * 3 + i * 3 by omega] at u0 u1 u2
    have v0 : w1.cell? ⟨r, q * 3 + i * 3, none⟩ = some (.int .i64 id) := (m2.cell _).trans u0
    have v1 : w1.cell? ⟨r, q * 3 + i * 3 + 1, none⟩ = some (.bool b0) := (m2.cell _).trans u1
    have v2 : w1.cell? ⟨r, q * 3 + i * 3 + 2, none⟩ = some (.string s0) := (m2.cell _).trans u2
    have f0 := m2.frozen (q * 3 + i * 3)
    have f1 := m2.frozen (q * 3 + i * 3 + 1)
    have f2 := m2.frozen (q * 3 + i * 3 + 2)
    have hkeep : ∀ k, k < w.heap.size → w1.heap[k]? = w.heap[k]? := fun k hk => hb.block k hk
    have HKW : Blk w1 g 170 #[.int .i64 4, .map (some b)] ∧ S g ∧ S b ∧ RMap w1 b N tab ∧ (∀ k, RV S w1 (tab k) (f k)) ∧ ∀ k k' r q n c q' n' c', tab k = some (r, q, n, c) → tab k' = some (r, q', n', c') → k = k' :=
      ⟨hB1, HK.out.2.1, HK.out.2.2.1, hM1, fun k => (HK.out.2.2.2.2.1 k).keep fun k _ hk => hkeep k hk, HK.out.2.2.2.2.2⟩
    have hend := hid (rep_put (x := x) (t := t) HKW Q1.out hn4 m1 m2 m3 m4 m5 m6 hin hx hfx)
    have hO := hid (And.intro hb hb.size)
    have hgl := hB1.lt
    clear hb r2 r3 HKW m1 m2 m3 m4 m5 m6 hB1 hM1 u0 u1 u2 u3 u4 hkeep
    cases b0 with
    | false =>
      go_wp2_with fail
      go_ret
      exact ⟨⟨_, rfl⟩, hstay.out⟩
    | true =>
      obtain ⟨o, ho⟩ : ∃ o, o = q * 3 + i * 3 := ⟨_, rfl⟩
      go_wp2_with fail
      go_ret
      refine ⟨⟨_, rfl⟩, hend.out.1, ?_⟩
      have h2 := hend.out.2
      exact ⟨h2.os.trans hO.out.1.os, h2.tape.trans hO.out.1.tape, h2.output.trans hO.out.1.output, Nat.le_trans hO.out.2 h2.size, fun k hk hs => (h2.block k (Nat.lt_of_lt_of_le hk hO.out.2) hs).trans (hO.out.1.block k hk)⟩
end
end Go.Proofs.YtopbojifllnckaaGreatDoor
namespace Go.Proofs.YtopbojifllnckaaGreatDoor
open Go.RowKit
attribute [local irreducible] wpQuiet
/-- The manager in block gm: its parts' blocks are told by T (1 .. 6), its own is 7. -/
structure Mgr (B : Nat) (T : Nat → Nat) (w : World) (gm p1 p2 p3 p4 p5 p6 : Nat) (L : List Str) (ep : Int) (N : Nat) (f : Int → Int) : Prop where
  blk : ∃ gone : Int, Blk w gm 82 #[.pointer (some ⟨p1, 0, none⟩), .pointer (some ⟨p2, 0, none⟩), .pointer (some ⟨p3, 0, none⟩), .pointer (some ⟨p4, 0, none⟩), .pointer (some ⟨p5, 0, none⟩), .pointer (some ⟨p6, 0, none⟩), .int .i64 gone]
  own : T gm = 7
  grp : Grp (fun k => T k = 1) w p1 ep
  smp : Smp (fun k => T k = 2) w p2 L
  imp : Imp (fun k => T k = 3) w p3
  usg : Usg (fun k => T k = 4) w p4 N
  lea : Lea (fun k => T k = 5) w p5 N
  rep : Rep (fun k => T k = 6) w p6 N f
  fits : Fits T B w
  len : L.length ≤ N
section
variable {B : Nat} {T : Nat → Nat} {w w' : World} {gm p1 p2 p3 p4 p5 p6 : Nat} {L L' : List Str} {ep ep' : Int} {N : Nat} {f f' : Int → Int}
theorem Mgr.below (h : Mgr B T w gm p1 p2 p3 p4 p5 p6 L ep N f) (hb : Below w.heap.size w w') : Mgr B T w' gm p1 p2 p3 p4 p5 p6 L ep N f := by
  obtain ⟨⟨gone, h1⟩, h2, h3, h4, h5, h6, h7, h8, h9, h10⟩ := h
  exact ⟨⟨gone, h1.below hb h1.lt⟩, h2, h3.keep fun k _ hk => hb.block k hk, h4.keep fun k _ hk => hb.block k hk, h5.keep fun k _ hk => hb.block k hk, h6.keep fun k _ hk => hb.block k hk, h7.keep fun k _ hk => hb.block k hk, h8.keep fun k _ hk => hb.block k hk, h9.below hb, h10⟩
theorem Mgr.more (h : Mgr B T w gm p1 p2 p3 p4 p5 p6 L ep N f) {M : Nat} (hM : N ≤ M) : Mgr B T w gm p1 p2 p3 p4 p5 p6 L ep M f := by
  obtain ⟨h1, h2, h3, h4, h5, h6, h7, h8, h9, h10⟩ := h
  exact ⟨h1, h2, h3, h4, h5, h6.mono (fun _ h => h) hM, h7.mono (fun _ h => h) hM, h8.mono (fun _ h => h) hM, h9, by omega⟩
theorem Grp.mono {S T : Nat → Prop} {w : World} {g : Nat} {ep : Int} (h : Grp S w g ep) (hST : ∀ k, S k → T k) : Grp T w g ep := by
  obtain ⟨b1, b2, o, m, x0, x1, x2, y0, y1, hole, gone, fil, h1, h2, h3, h4, h5, h6, h7, h8, h9, h10⟩ := h
  exact ⟨b1, b2, o, m, x0, x1, x2, y0, y1, hole, gone, fil, h1, h2, h3, h4, h5, h6, h7, hST _ h8, hST _ h9, hST _ h10⟩
theorem Imp.mono {S T : Nat → Prop} {w : World} {g : Nat} (h : Imp S w g) (hST : ∀ k, S k → T k) : Imp T w g := ⟨hST _ h.1, h.2⟩
theorem Mgr.grp_ (h : Mgr B T w gm p1 p2 p3 p4 p5 p6 L ep N f) (hp : Grp (Grow (fun k => T k = 1) w w') w' p1 ep') (ho : Only (fun k => T k = 1) w w')  :
    Mgr B (tagG T 1 w w') w' gm p1 p2 p3 p4 p5 p6 L ep' N f ∧ Goes T w (tagG T 1 w w') w' := by
  obtain ⟨⟨gone, h1⟩, h2, h3, h4, h5, h6, h7, h8, h9, h10⟩ := h
  refine ⟨⟨⟨gone, (ho.block gm h1.lt (by rw [h2]; decide)).trans h1⟩, ?_, ?_, ?_, ?_, ?_, ?_, ?_, h9.part ho.size, h10⟩, Goes.part (by decide) ho⟩
  · exact (congrFun (tagG_other (w' := w') (i := 1) h9 (j := 7) (by decide) (by decide)) gm).mpr h2
  · rcases tagG_own (T := T) (i := 1) (w := w) (w' := w') with e | e
    · rw [e]; exact hp
    · cases e
  · rw [tagG_other (w' := w') (i := 1) h9 (j := 2) (by decide) (by decide)]
    exact h4.keep fun k hk hl => ho.block k hl (by rw [hk]; decide)
  · rw [tagG_other (w' := w') (i := 1) h9 (j := 3) (by decide) (by decide)]
    exact h5.keep fun k hk hl => ho.block k hl (by rw [hk]; decide)
  · rw [tagG_other (w' := w') (i := 1) h9 (j := 4) (by decide) (by decide)]
    exact h6.keep fun k hk hl => ho.block k hl (by rw [hk]; decide)
  · rw [tagG_other (w' := w') (i := 1) h9 (j := 5) (by decide) (by decide)]
    exact h7.keep fun k hk hl => ho.block k hl (by rw [hk]; decide)
  · rw [tagG_other (w' := w') (i := 1) h9 (j := 6) (by decide) (by decide)]
    exact h8.keep fun k hk hl => ho.block k hl (by rw [hk]; decide)
theorem Mgr.smp_ (h : Mgr B T w gm p1 p2 p3 p4 p5 p6 L ep N f) (hp : Smp (Grow (fun k => T k = 2) w w') w' p2 L') (ho : Only (fun k => T k = 2) w w') (hl : L'.length ≤ N) :
    Mgr B (tagG T 2 w w') w' gm p1 p2 p3 p4 p5 p6 L' ep N f ∧ Goes T w (tagG T 2 w w') w' := by
  obtain ⟨⟨gone, h1⟩, h2, h3, h4, h5, h6, h7, h8, h9, h10⟩ := h
  refine ⟨⟨⟨gone, (ho.block gm h1.lt (by rw [h2]; decide)).trans h1⟩, ?_, ?_, ?_, ?_, ?_, ?_, ?_, h9.part ho.size, hl⟩, Goes.part (by decide) ho⟩
  · exact (congrFun (tagG_other (w' := w') (i := 2) h9 (j := 7) (by decide) (by decide)) gm).mpr h2
  · rw [tagG_other (w' := w') (i := 2) h9 (j := 1) (by decide) (by decide)]
    exact h3.keep fun k hk hl => ho.block k hl (by rw [hk]; decide)
  · rcases tagG_own (T := T) (i := 2) (w := w) (w' := w') with e | e
    · rw [e]; exact hp
    · cases e
  · rw [tagG_other (w' := w') (i := 2) h9 (j := 3) (by decide) (by decide)]
    exact h5.keep fun k hk hl => ho.block k hl (by rw [hk]; decide)
  · rw [tagG_other (w' := w') (i := 2) h9 (j := 4) (by decide) (by decide)]
    exact h6.keep fun k hk hl => ho.block k hl (by rw [hk]; decide)
  · rw [tagG_other (w' := w') (i := 2) h9 (j := 5) (by decide) (by decide)]
    exact h7.keep fun k hk hl => ho.block k hl (by rw [hk]; decide)
  · rw [tagG_other (w' := w') (i := 2) h9 (j := 6) (by decide) (by decide)]
    exact h8.keep fun k hk hl => ho.block k hl (by rw [hk]; decide)
theorem Mgr.imp_ (h : Mgr B T w gm p1 p2 p3 p4 p5 p6 L ep N f) (hp : Imp (Grow (fun k => T k = 3) w w') w' p3) (ho : Only (fun k => T k = 3) w w')  :
    Mgr B (tagG T 3 w w') w' gm p1 p2 p3 p4 p5 p6 L ep N f ∧ Goes T w (tagG T 3 w w') w' := by
  obtain ⟨⟨gone, h1⟩, h2, h3, h4, h5, h6, h7, h8, h9, h10⟩ := h
  refine ⟨⟨⟨gone, (ho.block gm h1.lt (by rw [h2]; decide)).trans h1⟩, ?_, ?_, ?_, ?_, ?_, ?_, ?_, h9.part ho.size, h10⟩, Goes.part (by decide) ho⟩
  · exact (congrFun (tagG_other (w' := w') (i := 3) h9 (j := 7) (by decide) (by decide)) gm).mpr h2
  · rw [tagG_other (w' := w') (i := 3) h9 (j := 1) (by decide) (by decide)]
    exact h3.keep fun k hk hl => ho.block k hl (by rw [hk]; decide)
  · rw [tagG_other (w' := w') (i := 3) h9 (j := 2) (by decide) (by decide)]
    exact h4.keep fun k hk hl => ho.block k hl (by rw [hk]; decide)
  · rcases tagG_own (T := T) (i := 3) (w := w) (w' := w') with e | e
    · rw [e]; exact hp
    · cases e
  · rw [tagG_other (w' := w') (i := 3) h9 (j := 4) (by decide) (by decide)]
    exact h6.keep fun k hk hl => ho.block k hl (by rw [hk]; decide)
  · rw [tagG_other (w' := w') (i := 3) h9 (j := 5) (by decide) (by decide)]
    exact h7.keep fun k hk hl => ho.block k hl (by rw [hk]; decide)
  · rw [tagG_other (w' := w') (i := 3) h9 (j := 6) (by decide) (by decide)]
    exact h8.keep fun k hk hl => ho.block k hl (by rw [hk]; decide)
theorem Mgr.usg_ (h : Mgr B T w gm p1 p2 p3 p4 p5 p6 L ep N f) (hp : Usg (Grow (fun k => T k = 4) w w') w' p4 N) (ho : Only (fun k => T k = 4) w w')  :
    Mgr B (tagG T 4 w w') w' gm p1 p2 p3 p4 p5 p6 L ep N f ∧ Goes T w (tagG T 4 w w') w' := by
  obtain ⟨⟨gone, h1⟩, h2, h3, h4, h5, h6, h7, h8, h9, h10⟩ := h
  refine ⟨⟨⟨gone, (ho.block gm h1.lt (by rw [h2]; decide)).trans h1⟩, ?_, ?_, ?_, ?_, ?_, ?_, ?_, h9.part ho.size, h10⟩, Goes.part (by decide) ho⟩
  · exact (congrFun (tagG_other (w' := w') (i := 4) h9 (j := 7) (by decide) (by decide)) gm).mpr h2
  · rw [tagG_other (w' := w') (i := 4) h9 (j := 1) (by decide) (by decide)]
    exact h3.keep fun k hk hl => ho.block k hl (by rw [hk]; decide)
  · rw [tagG_other (w' := w') (i := 4) h9 (j := 2) (by decide) (by decide)]
    exact h4.keep fun k hk hl => ho.block k hl (by rw [hk]; decide)
  · rw [tagG_other (w' := w') (i := 4) h9 (j := 3) (by decide) (by decide)]
    exact h5.keep fun k hk hl => ho.block k hl (by rw [hk]; decide)
  · rcases tagG_own (T := T) (i := 4) (w := w) (w' := w') with e | e
    · rw [e]; exact hp
    · cases e
  · rw [tagG_other (w' := w') (i := 4) h9 (j := 5) (by decide) (by decide)]
    exact h7.keep fun k hk hl => ho.block k hl (by rw [hk]; decide)
  · rw [tagG_other (w' := w') (i := 4) h9 (j := 6) (by decide) (by decide)]
    exact h8.keep fun k hk hl => ho.block k hl (by rw [hk]; decide)
theorem Mgr.lea_ (h : Mgr B T w gm p1 p2 p3 p4 p5 p6 L ep N f) (hp : Lea (Grow (fun k => T k = 5) w w') w' p5 N) (ho : Only (fun k => T k = 5) w w')  :
    Mgr B (tagG T 5 w w') w' gm p1 p2 p3 p4 p5 p6 L ep N f ∧ Goes T w (tagG T 5 w w') w' := by
  obtain ⟨⟨gone, h1⟩, h2, h3, h4, h5, h6, h7, h8, h9, h10⟩ := h
  refine ⟨⟨⟨gone, (ho.block gm h1.lt (by rw [h2]; decide)).trans h1⟩, ?_, ?_, ?_, ?_, ?_, ?_, ?_, h9.part ho.size, h10⟩, Goes.part (by decide) ho⟩
  · exact (congrFun (tagG_other (w' := w') (i := 5) h9 (j := 7) (by decide) (by decide)) gm).mpr h2
  · rw [tagG_other (w' := w') (i := 5) h9 (j := 1) (by decide) (by decide)]
    exact h3.keep fun k hk hl => ho.block k hl (by rw [hk]; decide)
  · rw [tagG_other (w' := w') (i := 5) h9 (j := 2) (by decide) (by decide)]
    exact h4.keep fun k hk hl => ho.block k hl (by rw [hk]; decide)
  · rw [tagG_other (w' := w') (i := 5) h9 (j := 3) (by decide) (by decide)]
    exact h5.keep fun k hk hl => ho.block k hl (by rw [hk]; decide)
  · rw [tagG_other (w' := w') (i := 5) h9 (j := 4) (by decide) (by decide)]
    exact h6.keep fun k hk hl => ho.block k hl (by rw [hk]; decide)
  · rcases tagG_own (T := T) (i := 5) (w := w) (w' := w') with e | e
    · rw [e]; exact hp
    · cases e
  · rw [tagG_other (w' := w') (i := 5) h9 (j := 6) (by decide) (by decide)]
    exact h8.keep fun k hk hl => ho.block k hl (by rw [hk]; decide)
theorem Mgr.rep_ (h : Mgr B T w gm p1 p2 p3 p4 p5 p6 L ep N f) (hp : Rep (Grow (fun k => T k = 6) w w') w' p6 N f') (ho : Only (fun k => T k = 6) w w')  :
    Mgr B (tagG T 6 w w') w' gm p1 p2 p3 p4 p5 p6 L ep N f' ∧ Goes T w (tagG T 6 w w') w' := by
  obtain ⟨⟨gone, h1⟩, h2, h3, h4, h5, h6, h7, h8, h9, h10⟩ := h
  refine ⟨⟨⟨gone, (ho.block gm h1.lt (by rw [h2]; decide)).trans h1⟩, ?_, ?_, ?_, ?_, ?_, ?_, ?_, h9.part ho.size, h10⟩, Goes.part (by decide) ho⟩
  · exact (congrFun (tagG_other (w' := w') (i := 6) h9 (j := 7) (by decide) (by decide)) gm).mpr h2
  · rw [tagG_other (w' := w') (i := 6) h9 (j := 1) (by decide) (by decide)]
    exact h3.keep fun k hk hl => ho.block k hl (by rw [hk]; decide)
  · rw [tagG_other (w' := w') (i := 6) h9 (j := 2) (by decide) (by decide)]
    exact h4.keep fun k hk hl => ho.block k hl (by rw [hk]; decide)
  · rw [tagG_other (w' := w') (i := 6) h9 (j := 3) (by decide) (by decide)]
    exact h5.keep fun k hk hl => ho.block k hl (by rw [hk]; decide)
  · rw [tagG_other (w' := w') (i := 6) h9 (j := 4) (by decide) (by decide)]
    exact h6.keep fun k hk hl => ho.block k hl (by rw [hk]; decide)
  · rw [tagG_other (w' := w') (i := 6) h9 (j := 5) (by decide) (by decide)]
    exact h7.keep fun k hk hl => ho.block k hl (by rw [hk]; decide)
  · rcases tagG_own (T := T) (i := 6) (w := w) (w' := w') with e | e
    · rw [e]; exact hp
    · cases e
end
end Go.Proofs.YtopbojifllnckaaGreatDoor
namespace Go.Proofs.YtopbojifllnckaaGreatDoor
open Go.RowKit
attribute [local irreducible] wpQuiet
/-- What a command's function gives: numbers and an error; the manager behind it. -/
def DEnd (B : Nat) (T : Nat → Nat) (w : World) (gm p1 p2 p3 p4 p5 p6 N : Nat) (f : Int → Int) (R : List Str → Int → List Int → Nat → Prop) (e : Ending) (w' : World) : Prop :=
  ∃ A n c, ∃ (l : List Int) (r : Nat) (T' : Nat → Nat) (L' : List Str) (ep' : Int), e = .returned (.tuple #[.slice A n c, .int .i64 r]) ∧ l.length = n ∧ Holds w' w'.heap.size A (nums l) ∧ (∀ x ∈ l, I64 x) ∧ n ≤ 3 ∧ r < 256 ∧
    Mgr B T' w' gm p1 p2 p3 p4 p5 p6 L' ep' N f ∧ Goes T w T' w' ∧ R L' ep' l r
section
variable {B : Nat} {T : Nat → Nat} {w w' : World} {gm p1 p2 p3 p4 p5 p6 : Nat} {L L' : List Str} {ep ep' : Int} {N : Nat} {f f' : Int → Int}
theorem holds_nil (w : World) (B : Nat) : Holds w B none (nums []) := fun h => by simp [nums] at h
set_option maxRecDepth 100000 in
set_option maxHeartbeats 1600000 in
theorem drop_any (h : Mgr B T w gm p1 p2 p3 p4 p5 p6 L ep N f) (cl sq kd a b c d e : Int) (ha : I64 a) :
    Calls Tryz.prog 101 #[.pointer (some ⟨gm, 0, none⟩), .agg #[.int .i64 cl, .int .i64 sq, .int .i64 kd, .int .i64 a, .int .i64 b, .int .i64 c, .int .i64 d, .int .i64 e]] w (DEnd B T w gm p1 p2 p3 p4 p5 p6 N f fun L' _ _ _ => L' = L) := by
  obtain ⟨W, hW⟩ : ∃ W, W = w.alloc (.cells #[.int .i64 cl, .int .i64 sq, .int .i64 kd, .int .i64 a, .int .i64 b, .int .i64 c, .int .i64 d, .int .i64 e] 30) := ⟨_, rfl⟩
  have hb : Below w.heap.size w W := by rw [hW]; exact (Below.refl _ _).alloc (Nat.le_refl _) _
  have hBx : Blk W w.heap.size 30 #[.int .i64 cl, .int .i64 sq, .int .i64 kd, .int .i64 a, .int .i64 b, .int .i64 c, .int .i64 d, .int .i64 e] := by rw [hW]; exact Blk.new w 30 _
  have hm := h.below hb
  obtain ⟨gone, hg⟩ := hm.blk
  have g4 : W.cell? ⟨gm, 4, none⟩ = some (.pointer (some ⟨p5, 0, none⟩)) := (hg.cell 4).trans rfl
  have b0 : W.cell? ⟨w.heap.size, 0, none⟩ = some (.int .i64 cl) := (hBx.cell 0).trans rfl
  have b3 : W.cell? ⟨w.heap.size, 3, none⟩ = some (.int .i64 a) := (hBx.cell 3).trans rfl
  have b4 : W.cell? ⟨w.heap.size, 4, none⟩ = some (.int .i64 b) := (hBx.cell 4).trans rfl
  have hcall : Hid (∀ W2, W2 = W.drew → Calls Tryz.prog 172 #[.pointer (some ⟨p5, 0, none⟩), .int .i64 a, .int .i64 cl, .int .i64 b] W2 fun e w' => RNum e ∧ ∃ T', Mgr B T' w' gm p1 p2 p3 p4 p5 p6 L ep N f ∧ Goes T w T' w') := by
    show ∀ W2, _
    intro W2 hW2
    have hb2 : Below W.heap.size W W2 := by rw [hW2]; exact (Below.refl _ _).drew
    have hm2 := hm.below hb2
    refine (lDrop_any hm2.lea cl b (wf_i64 ha.1 ha.2)).mono ?_
    rintro e w' ⟨he, h1, h2⟩
    obtain ⟨m1, m2⟩ := hm2.lea_ (h1.mono (fun _ h => .inl h) (Nat.le_refl _)) h2
    exact ⟨he, _, m1, (Goes.below (hb.trans (hb2.mono hb.size))).trans m2⟩
  have hgl := hg.lt
  have hbl := hBx.lt
  clear hm hg hBx hb h
  go_enter Tryz.func101, Tryz.ntmps101
  go_upto_region 1 with (fail)
  rw [← hW]
  clear hW
  go_still_tail 10, (by kernel_rfl)
  change wpList _ _ _ _ _ (W.drewN 1)
  go_wp2_with fail
  refine (hcall.out _ rfl).mono ?_
  rintro e w' ⟨⟨r, rfl, hr⟩, hx⟩
  have HX := hid hx
  clear hx
  go_wp2_with fail
  go_ret2
  obtain ⟨T', m1, m2⟩ := HX.out
  exact ⟨none, 0, 0, [], r, T', L, ep, rfl, rfl, holds_nil _ _, (fun x hx => by cases hx), by omega, by omega, m1, m2, rfl⟩
end
end Go.Proofs.YtopbojifllnckaaGreatDoor
namespace Go.Proofs.YtopbojifllnckaaGreatDoor
open Go.RowKit
attribute [local irreducible] wpQuiet
section
variable {B : Nat} {T : Nat → Nat} {w w' : World} {gm p1 p2 p3 p4 p5 p6 : Nat} {L L' : List Str} {ep ep' : Int} {N : Nat} {f f' : Int → Int}
theorem Mgr.cell (h : Mgr B T w gm p1 p2 p3 p4 p5 p6 L ep N f) (i : Nat) (v : Value) (hi : i < 6) (hv : #[Value.pointer (some ⟨p1, 0, none⟩), .pointer (some ⟨p2, 0, none⟩), .pointer (some ⟨p3, 0, none⟩), .pointer (some ⟨p4, 0, none⟩), .pointer (some ⟨p5, 0, none⟩), .pointer (some ⟨p6, 0, none⟩)][i]? = some v) : w.cell? ⟨gm, i, none⟩ = some v := by
  obtain ⟨gone, hg⟩ := h.blk
  rw [hg.cell, ← hv]
  match i, hi with
  | 0, _ => rfl
  | 1, _ => rfl
  | 2, _ => rfl
  | 3, _ => rfl
  | 4, _ => rfl
  | 5, _ => rfl
theorem Grp.i64 {S : Nat → Prop} {g : Nat} (h : Grp S w g ep) : I64 ep := by
  obtain ⟨b1, b2, o, m, x0, x1, x2, y0, y1, hole, gone, fil, h1, h2, h3, h4, h5, h6, h7, h8, h9, h10⟩ := h
  exact h7
theorem Mgr.gone (h : Mgr B T w gm p1 p2 p3 p4 p5 p6 L ep N f) (x : Int) : Mgr B T (w.setCell ⟨gm, 6, none⟩ (.int .i64 x)) gm p1 p2 p3 p4 p5 p6 L ep N f ∧ Goes T w T (w.setCell ⟨gm, 6, none⟩ (.int .i64 x)) := by
  obtain ⟨⟨gone, h1⟩, h2, h3, h4, h5, h6, h7, h8, h9, h10⟩ := h
  have hk : ∀ i, i ≠ 7 → ∀ k, T k = i → k < w.heap.size → (w.setCell ⟨gm, 6, none⟩ (.int .i64 x)).heap[k]? = w.heap[k]? := fun i hi k hk _ => Below.heap_setCell w ⟨gm, 6, none⟩ _ k (fun e => hi (by rw [← hk, e, h2]))
  refine ⟨⟨⟨x, h1.set_ 6 _⟩, h2, h3.keep (hk 1 (by decide)), h4.keep (hk 2 (by decide)), h5.keep (hk 3 (by decide)), h6.keep (hk 4 (by decide)), h7.keep (hk 5 (by decide)), h8.keep (hk 6 (by decide)), ⟨by simpa [World.setCell] using h9.1, fun k hk => by simpa [World.setCell] using h9.2 k hk⟩, h10⟩, ?_, fun k _ h => h⟩
  exact setS (S := fun k => T k ≠ 0) (by show T gm ≠ 0; rw [h2]; decide) _ _ (Only.refl _ _)
/-- Numbers that lie in a block just made. -/
theorem holds_new (w : World) (l : List Int) (t : TypeId) (arr : Array Value) (ha : arr.toList = nums l) : Holds (w.alloc (.cells arr t)) (w.alloc (.cells arr t)).heap.size (some ⟨w.heap.size, 0, none⟩) (nums l) := fun _ =>
  ⟨_, rfl, by simp, fun j u hu => by
    rw [add_plain, (Blk.new w t arr).cell, ← ha] at *
    rw [← hu]
    simp⟩
theorem one64 {x : Int} (h : I64 x) : ∀ y ∈ [x], I64 y := fun y hy => by
  rw [List.mem_singleton] at hy
  rw [hy]
  exact h
set_option maxRecDepth 100000 in
set_option maxHeartbeats 1600000 in
theorem close_any (h : Mgr B T w gm p1 p2 p3 p4 p5 p6 L ep N f) (cl sq kd a b c d e : Int)  :
    Calls Tryz.prog 99 #[.pointer (some ⟨gm, 0, none⟩), .agg #[.int .i64 cl, .int .i64 sq, .int .i64 kd, .int .i64 a, .int .i64 b, .int .i64 c, .int .i64 d, .int .i64 e]] w (DEnd B T w gm p1 p2 p3 p4 p5 p6 N f fun L' _ _ _ => L' = L) := by
  obtain ⟨W, hW⟩ : ∃ W, W = w.alloc (.cells #[.int .i64 cl, .int .i64 sq, .int .i64 kd, .int .i64 a, .int .i64 b, .int .i64 c, .int .i64 d, .int .i64 e] 30) := ⟨_, rfl⟩
  have hb : Below w.heap.size w W := by rw [hW]; exact (Below.refl _ _).alloc (Nat.le_refl _) _
  have hBx : Blk W w.heap.size 30 #[.int .i64 cl, .int .i64 sq, .int .i64 kd, .int .i64 a, .int .i64 b, .int .i64 c, .int .i64 d, .int .i64 e] := by rw [hW]; exact Blk.new w 30 _
  have hm := h.below hb
  have hT0 : T w.heap.size = 0 := h.fits.zero (Nat.le_refl _)
  obtain ⟨gone, hg⟩ := hm.blk
  have b3 : W.cell? ⟨w.heap.size, 3, none⟩ = some (.int .i64 a) := (hBx.cell 3).trans rfl
  have hgl := hg.lt
  have hbl := hBx.lt
  have g0 := hm.cell 0 _ (by decide) rfl
  have hcall : Hid (∀ W2, W2 = W.drewN 1 → Calls Tryz.prog 170 #[.pointer (some ⟨p1, 0, none⟩), .int .i64 a] W2 fun e0 w' => ∃ r : Nat, e0 = .returned (.int .i64 r) ∧ r < 17 ∧ ∃ T' ep', Mgr B T' w' gm p1 p2 p3 p4 p5 p6 L ep' N f ∧ Goes T w T' w' ∧ Blk w' w.heap.size 30 #[.int .i64 cl, .int .i64 sq, .int .i64 kd, .int .i64 a, .int .i64 b, .int .i64 c, .int .i64 d, .int .i64 e]) := by
    show ∀ W2, _
    intro W2 hW2
    have hb2 : Below W.heap.size W W2 := by rw [hW2]; exact below_drewN (Below.refl _ _) 1
    have hm2 := hm.below hb2
    refine (gDone_any hm2.grp a).mono ?_
    rintro e0 w' ⟨r, he, hr, ⟨ep', h1⟩, h2, h3⟩
    obtain ⟨m1, m2⟩ := hm2.grp_ (h1.mono fun _ h => .inl h) h2
    exact ⟨r, he, hr, _, ep', m1, (Goes.below (hb.trans (hb2.mono hb.size))).trans m2, (hBx.below hb2 hBx.lt).only h2 (by show ¬ T w.heap.size = 1; rw [hT0]; decide)⟩
  clear hm hg hBx hb h
  go_enter Tryz.func99, Tryz.ntmps99
  go_upto_region 1 with (fail)
  rw [← hW]
  clear hW
  go_still_tail 6, (by kernel_rfl)
  change wpList _ _ _ _ _ (W.drewN 1)
  go_wp2_with fail
  refine (hcall.out _ rfl).mono ?_
  rintro e w' ⟨r, rfl, hr, T', ep', hx, hy, _⟩
  have HX := hid hx
  have HY := hid hy
  have q0 := hx.cell 0 _ (by decide) rfl
  have hgl' : gm < w'.heap.size := by obtain ⟨_, hq⟩ := hx.blk; exact hq.lt
  clear hx hy g0 b3
  go_wp2_with fail
  refine (gEpoch_any HX.out.grp).mono ?_
  rintro e w2 ⟨rfl, rfl⟩
  go_wp2_with fail
  go_ret2
  have hbb := (Below.refl w'.heap.size w').alloc (Nat.le_refl _) (.cells #[.int .i64 ep'] 3)
  exact ⟨_, 1, 1, [ep'], r, T', L, ep', rfl, rfl, holds_new w' [ep'] 3 _ rfl, one64 HX.out.grp.i64, by omega, by omega, HX.out.below hbb, HY.out.trans (Goes.below hbb), rfl⟩
set_option maxRecDepth 100000 in
set_option maxHeartbeats 1600000 in
theorem fail_any (h : Mgr B T w gm p1 p2 p3 p4 p5 p6 L ep N f) (cl sq kd a b c d e : Int)  :
    Calls Tryz.prog 97 #[.pointer (some ⟨gm, 0, none⟩), .agg #[.int .i64 cl, .int .i64 sq, .int .i64 kd, .int .i64 a, .int .i64 b, .int .i64 c, .int .i64 d, .int .i64 e]] w (DEnd B T w gm p1 p2 p3 p4 p5 p6 N f fun L' _ _ _ => L' = L) := by
  obtain ⟨W, hW⟩ : ∃ W, W = w.alloc (.cells #[.int .i64 cl, .int .i64 sq, .int .i64 kd, .int .i64 a, .int .i64 b, .int .i64 c, .int .i64 d, .int .i64 e] 30) := ⟨_, rfl⟩
  have hb : Below w.heap.size w W := by rw [hW]; exact (Below.refl _ _).alloc (Nat.le_refl _) _
  have hBx : Blk W w.heap.size 30 #[.int .i64 cl, .int .i64 sq, .int .i64 kd, .int .i64 a, .int .i64 b, .int .i64 c, .int .i64 d, .int .i64 e] := by rw [hW]; exact Blk.new w 30 _
  have hm := h.below hb
  have hT0 : T w.heap.size = 0 := h.fits.zero (Nat.le_refl _)
  obtain ⟨gone, hg⟩ := hm.blk
  have b3 : W.cell? ⟨w.heap.size, 3, none⟩ = some (.int .i64 a) := (hBx.cell 3).trans rfl
  have b4 : W.cell? ⟨w.heap.size, 4, none⟩ = some (.int .i64 b) := (hBx.cell 4).trans rfl
  have hgl := hg.lt
  have hbl := hBx.lt
  have g0 := hm.cell 0 _ (by decide) rfl
  have hcall : Hid (∀ W2, W2 = W.drewN 1 → Calls Tryz.prog 165 #[.pointer (some ⟨p1, 0, none⟩), .int .i64 a, .int .i64 b] W2 fun e0 w' => ∃ r : Nat, e0 = .returned (.int .i64 r) ∧ r < 17 ∧ ∃ T' ep', Mgr B T' w' gm p1 p2 p3 p4 p5 p6 L ep' N f ∧ Goes T w T' w' ∧ Blk w' w.heap.size 30 #[.int .i64 cl, .int .i64 sq, .int .i64 kd, .int .i64 a, .int .i64 b, .int .i64 c, .int .i64 d, .int .i64 e]) := by
    show ∀ W2, _
    intro W2 hW2
    have hb2 : Below W.heap.size W W2 := by rw [hW2]; exact below_drewN (Below.refl _ _) 1
    have hm2 := hm.below hb2
    refine (gFail_any hm2.grp a b).mono ?_
    rintro e0 w' ⟨r, he, hr, ⟨ep', h1⟩, h2, h3⟩
    obtain ⟨m1, m2⟩ := hm2.grp_ (h1.mono fun _ h => .inl h) h2
    exact ⟨r, he, hr, _, ep', m1, (Goes.below (hb.trans (hb2.mono hb.size))).trans m2, (hBx.below hb2 hBx.lt).only h2 (by show ¬ T w.heap.size = 1; rw [hT0]; decide)⟩
  clear hm hg hBx hb h
  go_enter Tryz.func97, Tryz.ntmps97
  go_upto_region 1 with (fail)
  rw [← hW]
  clear hW
  go_still_tail 8, (by kernel_rfl)
  change wpList _ _ _ _ _ (W.drewN 1)
  go_wp2_with fail
  refine (hcall.out _ rfl).mono ?_
  rintro e w' ⟨r, rfl, hr, T', ep', hx, hy, hz⟩
  have HX := hid hx
  have HY := hid hy
  have q0 := hx.cell 0 _ (by decide) rfl
  have q3 : w'.cell? ⟨w.heap.size, 3, none⟩ = some (.int .i64 a) := (hz.cell 3).trans rfl
  obtain ⟨gn, hq⟩ := hx.blk
  have hgl' : gm < w'.heap.size := hq.lt
  have q6 : w'.cell? ⟨gm, 6, none⟩ = some (.int .i64 gn) := (hq.cell 6).trans rfl
  have f6 := hq.frozen 6
  clear hx hy hz hq g0 b3 b4
  by_cases h0 : r = 0
  · subst h0
    go_upto_region 4 with (fail)
    obtain ⟨w2, hw2⟩ : ∃ w2, w2 = w'.setCell ⟨gm, 6, none⟩ (.int .i64 a) := ⟨_, rfl⟩
    rw [← hw2]
    obtain ⟨n1, n2⟩ := HX.out.gone a
    rw [← hw2] at n1 n2
    have q0' := n1.cell 0 _ (by decide) rfl
    have HN := hid (And.intro n1 n2)
    have hgl2 : gm < w2.heap.size := by obtain ⟨_, hq⟩ := n1.blk; exact hq.lt
    clear hw2 n1 n2 q0 q3 q6 f6
    go_wp2_with fail
    refine (gEpoch_any HN.out.1.grp).mono ?_
    rintro e w3 ⟨rfl, rfl⟩
    go_wp2_with fail
    go_ret2
    have hbb := (Below.refl w2.heap.size w2).alloc (Nat.le_refl _) (.cells #[.int .i64 ep'] 3)
    exact ⟨_, 1, 1, [ep'], 0, T', L, ep', rfl, rfl, holds_new w2 [ep'] 3 _ rfl, one64 HX.out.grp.i64, by omega, by omega, HN.out.1.below hbb, (HY.out.trans HN.out.2).trans (Goes.below hbb), rfl⟩
  · have d0 : ((r : Int) == 0) = false := by simp; omega
    have d1 : (r == 0) = false := by simp; omega
    go_wp2_with fail
    refine (gEpoch_any HX.out.grp).mono ?_
    rintro e w2 ⟨rfl, rfl⟩
    go_wp2_with fail
    go_ret2
    have hbb := (Below.refl w'.heap.size w').alloc (Nat.le_refl _) (.cells #[.int .i64 ep'] 3)
    exact ⟨_, 1, 1, [ep'], r, T', L, ep', rfl, rfl, holds_new w' [ep'] 3 _ rfl, one64 HX.out.grp.i64, by omega, by omega, HX.out.below hbb, HY.out.trans (Goes.below hbb), rfl⟩
end
end Go.Proofs.YtopbojifllnckaaGreatDoor
