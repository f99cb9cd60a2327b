/- lease: Grant, Drop. replies: a client's calls in memory; find. -/
import Derived.Test.YtopbojifllnckaaGreatDoorG28
namespace Go.Proofs.YtopbojifllnckaaGreatDoor
open Go.RowKit
attribute [local irreducible] wpQuiet
theorem wf_i64 {x : Int} (h : -9223372036854775808 ≤ x) (h' : x < 9223372036854775808) : (Lit.int .i64 x).wf = true := by
  show (decide (IntKind.i64.min ≤ x) && decide (x ≤ IntKind.i64.max)) = true
  have h1 : IntKind.i64.min = -9223372036854775808 := rfl
  have h2 : IntKind.i64.max = 9223372036854775807 := rfl
  rw [h1, h2]
  simp
  omega
/-- A small number is given back. -/
def RNum (e : Ending) : Prop := ∃ r : Nat, e = .returned (.int .i64 r) ∧ r < 17
section
variable {S : Nat → Prop} {w : World} {g N : Nat}
theorem leaW {w0 : World} {b n : Nat} {cs Z L : Array Value} (h0 : Only S w w0) (hz : w0.heap.size = w.heap.size) (hG : Blk w0 g 167 cs) (hM : LMap w0 b n) :
    Only S w ((w0.alloc (.cells Z 277)).alloc (.cells L 277)) ∧ Blk ((w0.alloc (.cells Z 277)).alloc (.cells L 277)) g 167 cs ∧ LMap ((w0.alloc (.cells Z 277)).alloc (.cells L 277)) b n ∧ Blk ((w0.alloc (.cells Z 277)).alloc (.cells L 277)) w.heap.size 277 Z ∧ Blk ((w0.alloc (.cells Z 277)).alloc (.cells L 277)) (w.heap.size + 1) 277 L := by
  refine ⟨(h0.alloc _).alloc _, (hG.alloc _).alloc _, ?_, ?_, ?_⟩
  · have h1 := hM.keep (w' := w0.alloc (.cells Z 277)) (Below.heap_alloc w0 _ b hM.lt)
    exact h1.keep (Below.heap_alloc _ _ b h1.lt)
  · have h := (Blk.new w0 277 Z).alloc (.cells L 277)
    rw [hz] at h
    exact h
  · have h := Blk.new (w0.alloc (.cells Z 277)) 277 L
    rw [show (w0.alloc (.cells Z 277)).heap.size = w.heap.size + 1 by simp [hz]] at h
    exact h
theorem lea_set {b n : Nat} {cs : Array Value} (hM : LMap w b n) (hG : Blk w g 167 cs) (i : Nat) (v : Value) : LMap (w.setCell ⟨g, i, none⟩ v) b n :=
  hM.keep (Below.heap_setCell w ⟨g, i, none⟩ v b (Ne.symm (hM.ne hG)))
/-- The leases with one more, and blocks of the call's own. -/
def Lea4 (S : Nat → Prop) (w : World) (g b n : Nat) (t : Int) (w' : World) : Prop := Blk w' g 167 #[.map (some b), .int .i64 t] ∧ S g ∧ S b ∧ g < w.heap.size ∧ b < w.heap.size ∧ LMap w' b (n + 1) ∧ Only S w w'
theorem lea4 {b n : Nat} {t : Int} {w1 w2 : World} (h0 : Only S w w1) (h1 : Blk w1 g 167 #[.map (some b), .int .i64 t]) (hg : S g) (hb : S b) (hgl : g < w.heap.size) (hbl : b < w.heap.size) (hm1 : LMap w1 b n) (hm : LMap w2 b (n + 1)) (hgr : (w1.drewN 1).grownBy w2 (some b)) : Lea4 S w g b n t w2 := by
  have hne := hm1.ne h1
  refine ⟨(hgr.block g h1.lt (by simpa using hne)).trans h1, hg, hb, hgl, hbl, hm, hgr.os.trans h0.os, hgr.tape.trans h0.tape, hgr.output.trans h0.output, Nat.le_trans h0.size hgr.size, fun k hk hs => ?_⟩
  refine (hgr.block k (Nat.lt_of_lt_of_le hk h0.size) ?_).trans (h0.block k hk hs)
  intro e
  cases e
  exact hs hb
theorem Lea4.cell {b n : Nat} {t : Int} {w1 : World} (h : Lea4 S w g b n t w1) (i : Nat) (v : Value) : Lea4 S w g b n t (w1.setCell ⟨w.heap.size, i, none⟩ v) := by
  obtain ⟨h1, h2, h3, h4, h5, h6, h7⟩ := h
  exact ⟨h1.far (p := ⟨w.heap.size, i, none⟩) (Nat.ne_of_lt h4) v, h2, h3, h4, h5, h6.keep (Below.heap_setCell w1 ⟨w.heap.size, i, none⟩ v b (Nat.ne_of_lt h5)), h7.setCell (p := ⟨w.heap.size, i, none⟩) (.inr (Nat.le_refl _)) v⟩
theorem Lea4.end_ {b n : Nat} {t : Int} {w1 : World} (h : Lea4 S w g b n t w1) (hn : n ≤ N) : LEnd S w g (N + 1) w1 := by
  obtain ⟨h1, h2, h3, h4, h5, h6, h7⟩ := h
  exact ⟨⟨b, n + 1, t, h1, h2, h3, by omega, h6⟩, h7⟩
set_option maxRecDepth 100000 in
set_option maxHeartbeats 1600000 in
theorem grant_no (h : Lea S w g N) {id who now ttl : Int} (hh : id < 1 ∨ (1 ≤ id ∧ 256 ≤ id) ∨ (1 ≤ id ∧ id < 256 ∧ who < 0) ∨ (1 ≤ id ∧ id < 256 ∧ 0 ≤ who ∧ 16 ≤ who) ∨ (1 ≤ id ∧ id < 256 ∧ 0 ≤ who ∧ who < 16 ∧ now < 0) ∨ (1 ≤ id ∧ id < 256 ∧ 0 ≤ who ∧ who < 16 ∧ 0 ≤ now ∧ 1099511627776 < now) ∨ (1 ≤ id ∧ id < 256 ∧ 0 ≤ who ∧ who < 16 ∧ 0 ≤ now ∧ now ≤ 1099511627776 ∧ ttl < 1) ∨ (1 ≤ id ∧ id < 256 ∧ 0 ≤ who ∧ who < 16 ∧ 0 ≤ now ∧ now ≤ 1099511627776 ∧ 1 ≤ ttl ∧ 1000000 < ttl)) :
    Calls Tryz.prog 171 #[.pointer (some ⟨g, 0, none⟩), .int .i64 id, .int .i64 who, .int .i64 now, .int .i64 ttl] w fun e w' => RGrant e ∧ LEnd S w g (N + 1) w' := by
  have hst := hid (h.stay ((Below.refl w.heap.size w).alloc (Nat.le_refl _) (.cells #[.int .i64 0, .int .i64 0, .int .i64 0, .int .i64 0] 277))).grow
  clear h
  rcases hh with h | h | h | h | h | h | h | h
  all_goals
    first | have d0 : decide (id < 1) = true := by (simp; omega) | have d0 : decide (id < 1) = false := by (simp; omega) | skip
    first | have d1 : decide (256 ≤ id) = true := by (simp; omega) | have d1 : decide (256 ≤ id) = false := by (simp; omega) | skip
    first | have d2 : decide (who < 0) = true := by (simp; omega) | have d2 : decide (who < 0) = false := by (simp; omega) | skip
    first | have d3 : decide (16 ≤ who) = true := by (simp; omega) | have d3 : decide (16 ≤ who) = false := by (simp; omega) | skip
    first | have d4 : decide (now < 0) = true := by (simp; omega) | have d4 : decide (now < 0) = false := by (simp; omega) | skip
    first | have d5 : decide (1099511627776 < now) = true := by (simp; omega) | have d5 : decide (1099511627776 < now) = false := by (simp; omega) | skip
    first | have d6 : decide (ttl < 1) = true := by (simp; omega) | have d6 : decide (ttl < 1) = false := by (simp; omega) | skip
    first | have d7 : decide (1000000 < ttl) = true := by (simp; omega) | have d7 : decide (1000000 < ttl) = false := by (simp; omega) | skip
    clear h
    go_enter Tryz.func171, Tryz.ntmps171
    go_wp2_with fail
    exact bodyPost_ret (v := .tuple #[.agg #[.int .i64 0, .int .i64 0, .int .i64 0, .int .i64 0], .int .i64 1]) (by simp [results, Tryz.results171, go_sem]) rfl ⟨⟨_, 1, ⟨_, _, _, _, rfl, four0⟩, rfl, by omega⟩, hst.out⟩
set_option maxRecDepth 100000 in
set_option maxHeartbeats 1600000 in
theorem grant_yes (h : Lea S w g N) (hN : N ≤ 100000) {id who now ttl : Int} (h0 : 1 ≤ id) (h1 : id < 256) (h2 : 0 ≤ who) (h3 : who < 16) (h4 : 0 ≤ now) (h5 : now ≤ 1099511627776) (h6 : 1 ≤ ttl) (h7 : ttl ≤ 1000000) :
    Calls Tryz.prog 171 #[.pointer (some ⟨g, 0, none⟩), .int .i64 id, .int .i64 who, .int .i64 now, .int .i64 ttl] w fun e w' => RGrant e ∧ LEnd S w g (N + 1) w' := by
  have hA := hid ((Below.refl w.heap.size w).alloc (Nat.le_refl _) (.cells #[.int .i64 0, .int .i64 0, .int .i64 0, .int .i64 0] 277))
  have d0 : decide (id < 1) = false := by simp; omega
  have d1 : decide (256 ≤ id) = false := by simp; omega
  have d2 : decide (who < 0) = false := by simp; omega
  have d3 : decide (16 ≤ who) = false := by simp; omega
  have d4 : decide (now < 0) = false := by simp; omega
  have d5 : decide (1099511627776 < now) = false := by simp; omega
  have d6 : decide (ttl < 1) = false := by simp; omega
  have d7 : decide (1000000 < ttl) = false := by simp; omega
  have hinA : Hid (∀ t, I64 id ∧ I64 who ∧ I64 (now + ttl) ∧ I64 (wrap64 t)) := hid fun t => ⟨⟨by omega, by omega⟩, ⟨by omega, by omega⟩, ⟨by omega, by omega⟩, wrap64_in t⟩
  have hadd : IntKind.i64.wrap (now + ttl) = now + ttl := by rw [IntKind.wrap_i64]; omega
  have hkey : (Lit.int .i64 id).wf = true := wf_i64 (by omega) (by omega)
  obtain ⟨b, n, t, k1, k2, k3, k4, k5⟩ := h
  obtain ⟨v, ⟨l0, l1, l2, l3, rfl, hin⟩, hlk⟩ := (k5.keep (w' := w.alloc (.cells #[.int .i64 0, .int .i64 0, .int .i64 0, .int .i64 0] 277)) (hA.out.block b k5.lt)).look1 hkey
  have hinB : Hid (I64 l0 ∧ I64 l1 ∧ I64 (if l2 < now + ttl then now + ttl else l2) ∧ I64 l3) := hid ⟨hin.out.1, hin.out.2.1, by split; exact (hinA.out 0).2.2.1; exact hin.out.2.2.1, hin.out.2.2.2⟩
  have e0 : w.cell? ⟨g, 0, none⟩ = some (.map (some b)) := (k1.cell 0).trans rfl
  have e1 : w.cell? ⟨g, 1, none⟩ = some (.int .i64 t) := (k1.cell 1).trans rfl
  have f1 := k1.frozen 1
  have hgl := k1.lt
  have HK := hid (And.intro k1 (And.intro k2 (And.intro k3 (And.intro k4 k5))))
  have HKEY := hid hkey
  clear k1 k2 k3 k4 k5 hkey h0 h1 h2 h3 h4 h5 h6 h7
  by_cases p : l2 ≤ now
  · go_enter Tryz.func171, Tryz.ntmps171
    go_upto_region 10 with (fail)
    obtain ⟨W, hW⟩ : ∃ W, W = ((w.setCell ⟨g, 1, none⟩ (.int .i64 (wrap64 (t + 1)))).alloc (.cells #[.int .i64 0, .int .i64 0, .int .i64 0, .int .i64 0] 277)).alloc (.cells #[.int .i64 id, .int .i64 who, .int .i64 (now + ttl), .int .i64 (wrap64 (t + 1))] 277) := ⟨_, rfl⟩
    have hF := leaW (Z := #[.int .i64 0, .int .i64 0, .int .i64 0, .int .i64 0]) (L := #[.int .i64 id, .int .i64 who, .int .i64 (now + ttl), .int .i64 (wrap64 (t + 1))]) (setS HK.out.2.1 1 (.int .i64 (wrap64 (t + 1))) (Only.refl _ _)) (by simp [World.setCell]) (HK.out.1.set_ 1 (.int .i64 (wrap64 (t + 1)))) (lea_set HK.out.2.2.2.2 HK.out.1 1 (.int .i64 (wrap64 (t + 1))))
    rw [← hW] at hF
    obtain ⟨hO, hG, hM, hZ, hL⟩ := hF
    rw [← hW]
    clear hW
    have HIN := hid (hinA.out (t + 1))
    obtain ⟨x0, hx0⟩ : ∃ x : Int, x = id := ⟨_, rfl⟩
    obtain ⟨x1, hx1⟩ : ∃ x : Int, x = who := ⟨_, rfl⟩
    obtain ⟨x2, hx2⟩ : ∃ x : Int, x = now + ttl := ⟨_, rfl⟩
    obtain ⟨x3, hx3⟩ : ∃ x : Int, x = wrap64 (t + 1) := ⟨_, rfl⟩
    rw [← hx0, ← hx1, ← hx2, ← hx3] at hL HIN
    clear hx0 hx1 hx2 hx3
    have c0 : W.cell? ⟨g, 0, none⟩ = some (.map (some b)) := (hG.cell 0).trans rfl
    have x0' : W.cell? ⟨w.heap.size + 1, 0, none⟩ = some (.int .i64 x0) := (hL.cell 0).trans rfl
    have x1' : W.cell? ⟨w.heap.size + 1, 1, none⟩ = some (.int .i64 x1) := (hL.cell 1).trans rfl
    have x2' : W.cell? ⟨w.heap.size + 1, 2, none⟩ = some (.int .i64 x2) := (hL.cell 2).trans rfl
    have x3' : W.cell? ⟨w.heap.size + 1, 3, none⟩ = some (.int .i64 x3) := (hL.cell 3).trans rfl
    have HG := hid hG
    have HM := hid hM
    have HZ := hid hZ
    have HL := hid hL
    have HO := hid hO
    clear hG hM hZ hL hO
    go_still_tail 6, (by kernel_rfl)
    change wpList _ _ _ _ _ (W.drewN 1)
    refine wpList_lput (b := b) (n := n) rfl (.tmp 92) (.tmp 93) (.tmp 94) rfl rfl (HM.out.keep rfl) (by have := HK.out.2.2.2.1; unfold maxLen; omega) id rfl HKEY.out (.agg #[.int .i64 x0, .int .i64 x1, .int .i64 x2, .int .i64 x3]) rfl ⟨_, _, _, _, rfl, HIN⟩ ?_
    intro w2 hm2 hg2
    have hZ2 : Blk w2 w.heap.size 277 #[.int .i64 0, .int .i64 0, .int .i64 0, .int .i64 0] := (hg2.block _ HZ.out.lt (by simpa using HM.out.ne HZ.out)).trans HZ.out
    have hL2 : Blk w2 (w.heap.size + 1) 277 #[.int .i64 x0, .int .i64 x1, .int .i64 x2, .int .i64 x3] := (hg2.block _ HL.out.lt (by simpa using HM.out.ne HL.out)).trans HL.out
    have y0 : w2.cell? ⟨w.heap.size + 1, 0, none⟩ = some (.int .i64 x0) := (hL2.cell 0).trans rfl
    have y1 : w2.cell? ⟨w.heap.size + 1, 1, none⟩ = some (.int .i64 x1) := (hL2.cell 1).trans rfl
    have y2 : w2.cell? ⟨w.heap.size + 1, 2, none⟩ = some (.int .i64 x2) := (hL2.cell 2).trans rfl
    have y3 : w2.cell? ⟨w.heap.size + 1, 3, none⟩ = some (.int .i64 x3) := (hL2.cell 3).trans rfl
    have z0 : w2.cell? ⟨w.heap.size, 0, none⟩ = some (.int .i64 0) := (hZ2.cell 0).trans rfl
    have z1 : w2.cell? ⟨w.heap.size, 1, none⟩ = some (.int .i64 0) := (hZ2.cell 1).trans rfl
    have z2 : w2.cell? ⟨w.heap.size, 2, none⟩ = some (.int .i64 0) := (hZ2.cell 2).trans rfl
    have z3 : w2.cell? ⟨w.heap.size, 3, none⟩ = some (.int .i64 0) := (hZ2.cell 3).trans rfl
    have u0 := hZ2.frozen 0
    have u1 := hZ2.frozen 1
    have u2 := hZ2.frozen 2
    have u3 := hZ2.frozen 3
    have HM2 := hid hm2
    have HG2 := hid hg2
    clear hm2 hg2 hZ2 hL2 c0 x0' x1' x2' x3'
    go_wp2_with fail
    all_goals
      refine bodyPost_ret (v := .tuple #[.agg #[.int .i64 x0, .int .i64 x1, .int .i64 x2, .int .i64 x3], .int .i64 0]) (by simp [results, Tryz.results171, go_sem, z0, z1, z2, z3]) rfl ⟨⟨_, 0, ⟨_, _, _, _, rfl, HIN⟩, rfl, by omega⟩, ?_⟩
      exact (((((lea4 HO.out HG.out HK.out.2.1 HK.out.2.2.1 hgl HK.out.2.2.2.2.lt HM.out HM2.out HG2.out).cell 0 _).cell 1 _).cell 2 _).cell 3 _).end_ HK.out.2.2.2.1
  · by_cases q : l1 = who
    · subst q
      go_enter Tryz.func171, Tryz.ntmps171
      go_upto_region 10 with (fail)
      obtain ⟨W, hW⟩ : ∃ W, W = (w.alloc (.cells #[.int .i64 0, .int .i64 0, .int .i64 0, .int .i64 0] 277)).alloc (.cells #[.int .i64 l0, .int .i64 l1, .int .i64 (if l2 < now + ttl then now + ttl else l2), .int .i64 l3] 277) := ⟨_, rfl⟩
      have hF := leaW (Z := #[.int .i64 0, .int .i64 0, .int .i64 0, .int .i64 0]) (L := #[.int .i64 l0, .int .i64 l1, .int .i64 (if l2 < now + ttl then now + ttl else l2), .int .i64 l3]) (Only.refl S w) rfl HK.out.1 HK.out.2.2.2.2
      rw [← hW] at hF
      obtain ⟨hO, hG, hM, hZ, hL⟩ := hF
      rw [← hW]
      clear hW
      have HIN := hinB
      obtain ⟨x0, hx0⟩ : ∃ x : Int, x = l0 := ⟨_, rfl⟩
      obtain ⟨x1, hx1⟩ : ∃ x : Int, x = l1 := ⟨_, rfl⟩
      obtain ⟨x2, hx2⟩ : ∃ x : Int, x = if l2 < now + ttl then now + ttl else l2 := ⟨_, rfl⟩
      obtain ⟨x3, hx3⟩ : ∃ x : Int, x = l3 := ⟨_, rfl⟩
      rw [← hx0, ← hx1, ← hx2, ← hx3] at hL HIN
      clear hx0 hx1 hx2 hx3
      have c0 : W.cell? ⟨g, 0, none⟩ = some (.map (some b)) := (hG.cell 0).trans rfl
      have x0' : W.cell? ⟨w.heap.size + 1, 0, none⟩ = some (.int .i64 x0) := (hL.cell 0).trans rfl
      have x1' : W.cell? ⟨w.heap.size + 1, 1, none⟩ = some (.int .i64 x1) := (hL.cell 1).trans rfl
      have x2' : W.cell? ⟨w.heap.size + 1, 2, none⟩ = some (.int .i64 x2) := (hL.cell 2).trans rfl
      have x3' : W.cell? ⟨w.heap.size + 1, 3, none⟩ = some (.int .i64 x3) := (hL.cell 3).trans rfl
      have HG := hid hG
      have HM := hid hM
      have HZ := hid hZ
      have HL := hid hL
      have HO := hid hO
      clear hG hM hZ hL hO
      go_still_tail 6, (by kernel_rfl)
      change wpList _ _ _ _ _ (W.drewN 1)
      refine wpList_lput (b := b) (n := n) rfl (.tmp 92) (.tmp 93) (.tmp 94) rfl rfl (HM.out.keep rfl) (by have := HK.out.2.2.2.1; unfold maxLen; omega) id rfl HKEY.out (.agg #[.int .i64 x0, .int .i64 x1, .int .i64 x2, .int .i64 x3]) rfl ⟨_, _, _, _, rfl, HIN⟩ ?_
      intro w2 hm2 hg2
      have hZ2 : Blk w2 w.heap.size 277 #[.int .i64 0, .int .i64 0, .int .i64 0, .int .i64 0] := (hg2.block _ HZ.out.lt (by simpa using HM.out.ne HZ.out)).trans HZ.out
      have hL2 : Blk w2 (w.heap.size + 1) 277 #[.int .i64 x0, .int .i64 x1, .int .i64 x2, .int .i64 x3] := (hg2.block _ HL.out.lt (by simpa using HM.out.ne HL.out)).trans HL.out
      have y0 : w2.cell? ⟨w.heap.size + 1, 0, none⟩ = some (.int .i64 x0) := (hL2.cell 0).trans rfl
      have y1 : w2.cell? ⟨w.heap.size + 1, 1, none⟩ = some (.int .i64 x1) := (hL2.cell 1).trans rfl
      have y2 : w2.cell? ⟨w.heap.size + 1, 2, none⟩ = some (.int .i64 x2) := (hL2.cell 2).trans rfl
      have y3 : w2.cell? ⟨w.heap.size + 1, 3, none⟩ = some (.int .i64 x3) := (hL2.cell 3).trans rfl
      have z0 : w2.cell? ⟨w.heap.size, 0, none⟩ = some (.int .i64 0) := (hZ2.cell 0).trans rfl
      have z1 : w2.cell? ⟨w.heap.size, 1, none⟩ = some (.int .i64 0) := (hZ2.cell 1).trans rfl
      have z2 : w2.cell? ⟨w.heap.size, 2, none⟩ = some (.int .i64 0) := (hZ2.cell 2).trans rfl
      have z3 : w2.cell? ⟨w.heap.size, 3, none⟩ = some (.int .i64 0) := (hZ2.cell 3).trans rfl
      have u0 := hZ2.frozen 0
      have u1 := hZ2.frozen 1
      have u2 := hZ2.frozen 2
      have u3 := hZ2.frozen 3
      have HM2 := hid hm2
      have HG2 := hid hg2
      clear hm2 hg2 hZ2 hL2 c0 x0' x1' x2' x3'
      go_wp2_with fail
      all_goals
        refine bodyPost_ret (v := .tuple #[.agg #[.int .i64 x0, .int .i64 x1, .int .i64 x2, .int .i64 x3], .int .i64 0]) (by simp [results, Tryz.results171, go_sem, z0, z1, z2, z3]) rfl ⟨⟨_, 0, ⟨_, _, _, _, rfl, HIN⟩, rfl, by omega⟩, ?_⟩
        exact (((((lea4 HO.out HG.out HK.out.2.1 HK.out.2.2.1 hgl HK.out.2.2.2.2.lt HM.out HM2.out HG2.out).cell 0 _).cell 1 _).cell 2 _).cell 3 _).end_ HK.out.2.2.2.1
    · have q1 : (l1 == who) = false := by simp [q]
      have q2 : (l1 != who) = true := by simp [q]
      go_enter Tryz.func171, Tryz.ntmps171
      go_wp2_with fail
      exact bodyPost_ret (v := .tuple #[.agg #[.int .i64 0, .int .i64 0, .int .i64 0, .int .i64 0], .int .i64 11]) (by simp [results, Tryz.results171, go_sem]) rfl ⟨⟨_, 11, ⟨_, _, _, _, rfl, four0⟩, rfl, by omega⟩, (Lea.stay ⟨b, n, t, HK.out⟩ (hA.out.alloc (by simp) _)).grow⟩
set_option maxHeartbeats 1600000 in
theorem Grant_any (h : Lea S w g N) (hN : N ≤ 100000) (id who now ttl : Int) :
    Calls Tryz.prog 171 #[.pointer (some ⟨g, 0, none⟩), .int .i64 id, .int .i64 who, .int .i64 now, .int .i64 ttl] w fun e w' => RGrant e ∧ LEnd S w g (N + 1) w' := by
  by_cases hh : id < 1 ∨ (1 ≤ id ∧ 256 ≤ id) ∨ (1 ≤ id ∧ id < 256 ∧ who < 0) ∨ (1 ≤ id ∧ id < 256 ∧ 0 ≤ who ∧ 16 ≤ who) ∨ (1 ≤ id ∧ id < 256 ∧ 0 ≤ who ∧ who < 16 ∧ now < 0) ∨ (1 ≤ id ∧ id < 256 ∧ 0 ≤ who ∧ who < 16 ∧ 0 ≤ now ∧ 1099511627776 < now) ∨ (1 ≤ id ∧ id < 256 ∧ 0 ≤ who ∧ who < 16 ∧ 0 ≤ now ∧ now ≤ 1099511627776 ∧ ttl < 1) ∨ (1 ≤ id ∧ id < 256 ∧ 0 ≤ who ∧ who < 16 ∧ 0 ≤ now ∧ now ≤ 1099511627776 ∧ 1 ≤ ttl ∧ 1000000 < ttl)
  · exact grant_no h hh
  · exact grant_yes h hN (by omega) (by omega) (by omega) (by omega) (by omega) (by omega) (by omega) (by omega)
set_option maxRecDepth 100000 in
set_option maxHeartbeats 1600000 in
theorem lDrop_any (h : Lea S w g N) {id : Int} (who tok : Int) (hkey : (Lit.int .i64 id).wf = true) :
    Calls Tryz.prog 172 #[.pointer (some ⟨g, 0, none⟩), .int .i64 id, .int .i64 who, .int .i64 tok] w fun e w' => RNum e ∧ LEnd S w g N w' := by
  have H := hid h
  obtain ⟨b, n, t, k1, k2, k3, k4, k5⟩ := h
  obtain ⟨v, t1, ⟨l0, l1, l2, l3, rfl, _⟩, hlk⟩ := k5.look hkey
  have e0 : w.cell? ⟨g, 0, none⟩ = some (.map (some b)) := (k1.cell 0).trans rfl
  have hA := hid ((Below.refl w.heap.size w).alloc (Nat.le_refl _) (.cells #[.int .i64 l0, .int .i64 l1, .int .i64 l2, .int .i64 l3] 277))
  have hst := hid (H.out.stay hA.out)
  have hgl := k1.lt
  obtain ⟨w2, hdel, hm2, hg2⟩ := (k5.keep (w' := w.alloc (.cells #[.int .i64 l0, .int .i64 l1, .int .i64 l2, .int .i64 l3] 277)) (hA.out.block b k5.lt)).del hkey 0
  have hend : Hid (LEnd S w g N w2) := by
    have hne := k5.ne k1
    have hgr := hg2.grown
    have k1' : Blk (w.alloc (.cells #[.int .i64 l0, .int .i64 l1, .int .i64 l2, .int .i64 l3] 277)) g 167 #[.map (some b), .int .i64 t] := k1.alloc _
    refine ⟨⟨b, n, t, (hgr.block g k1'.lt (by simpa using hne)).trans k1', k2, k3, k4, hm2⟩, hgr.os.trans hA.out.os, hgr.tape.trans hA.out.tape, hgr.output.trans hA.out.output, Nat.le_trans hA.out.size hgr.size, fun k hk hs => ?_⟩
    exact (hgr.block k (Nat.lt_of_lt_of_le hk hA.out.size) (fun e => hs (by cases e; exact k3))).trans (hA.out.block k hk)
  clear k1 k2 k3 k4 k5 hkey H hg2 hm2
  cases t1 with
  | false =>
    go_enter Tryz.func172, Tryz.ntmps172
    go_wp2_with fail
    go_ret
    first | exact ⟨⟨7, rfl, by omega⟩, hst.out⟩ | exact ⟨⟨11, rfl, by omega⟩, hst.out⟩
  | true =>
    by_cases q0 : l0 = id
    · subst q0
      by_cases q1 : l1 = who
      · subst q1
        by_cases q2 : l3 = tok
        · subst q2
          go_enter Tryz.func172, Tryz.ntmps172
          go_wp2_with (rw [hdel])
          go_ret
          exact ⟨⟨0, rfl, by omega⟩, hend.out⟩
        · go_enter Tryz.func172, Tryz.ntmps172
          go_wp2_with fail
          go_ret
          first | exact ⟨⟨7, rfl, by omega⟩, hst.out⟩ | exact ⟨⟨11, rfl, by omega⟩, hst.out⟩
      · go_enter Tryz.func172, Tryz.ntmps172
        go_wp2_with fail
        go_ret
        first | exact ⟨⟨7, rfl, by omega⟩, hst.out⟩ | exact ⟨⟨11, rfl, by omega⟩, hst.out⟩
    · go_enter Tryz.func172, Tryz.ntmps172
      go_wp2_with fail
      go_ret
      first | exact ⟨⟨7, rfl, by omega⟩, hst.out⟩ | exact ⟨⟨11, rfl, by omega⟩, hst.out⟩
end
end Go.Proofs.YtopbojifllnckaaGreatDoor
namespace Go.Proofs.YtopbojifllnckaaGreatDoor
open Go.RowKit
attribute [local irreducible] wpQuiet
/-- An entry at place p of a block: its number lies below F. -/
def Ent3 (cur : Array Value) (p : Nat) (F : Int) : Prop := ∃ (id : Int) (b : Bool) (s : ByteArray), cur[p]? = some (.int .i64 id) ∧ cur[p + 1]? = some (.bool b) ∧ cur[p + 2]? = some (.string s) ∧ 0 ≤ id ∧ id < F
/-- A client's row: n entries, room for c. -/
def RRow (S : Nat → Prop) (w : World) (A : Option Addr) (n c : Nat) (F : Int) : Prop :=
  (A = none ∧ n = 0 ∧ c = 0) ∨ ∃ r q cur, A = some ⟨r, q * 3, none⟩ ∧ S r ∧ Blk w r 191 cur ∧ n ≤ c ∧ c ≤ maxLen ∧ cur.size = (q + c) * 3 ∧ ∀ j < n, Ent3 cur ((q + j) * 3) F
section
variable {S T : Nat → Prop} {w w' : World} {n c : Nat} {A : Option Addr} {F G : Int}
theorem Ent3.mono {cur : Array Value} {p : Nat} (h : Ent3 cur p F) (hFG : F ≤ G) : Ent3 cur p G := by
  obtain ⟨id, b, s, h1, h2, h3, h4, h5⟩ := h
  exact ⟨id, b, s, h1, h2, h3, h4, by omega⟩
theorem RRow.keep (h : RRow S w A n c F) (hk : ∀ k, S k → k < w.heap.size → w'.heap[k]? = w.heap[k]?) : RRow S w' A n c F := by
  rcases h with h | ⟨r, q, cur, h1, h2, h3, h4⟩
  · exact .inl h
  · exact .inr ⟨r, q, cur, h1, h2, (hk r h2 h3.lt).trans h3, h4⟩
theorem RRow.mono (h : RRow S w A n c F) (hST : ∀ k, S k → T k) (hFG : F ≤ G) : RRow T w A n c G := by
  rcases h with h | ⟨r, q, cur, h1, h2, h3, h4, h5, h6, h7⟩
  · exact .inl h
  · exact .inr ⟨r, q, cur, h1, hST _ h2, h3, h4, h5, h6, fun j hj => (h7 j hj).mono hFG⟩
theorem RRow.three (h : RRow S w A n c F) {i : Nat} (hi : i < n) : ∃ r q, A = some ⟨r, q, none⟩ ∧ S r ∧ r < w.heap.size ∧ ∃ (id : Int) (b : Bool) (s : ByteArray), w.cell? ⟨r, q + i * 3, none⟩ = some (.int .i64 id) ∧ w.cell? ⟨r, q + i * 3 + 1, none⟩ = some (.bool b) ∧ w.cell? ⟨r, q + i * 3 + 2, none⟩ = some (.string s) ∧ 0 ≤ id ∧ id < F := by
  rcases h with ⟨_, h, _⟩ | ⟨r, q, cur, rfl, h1, h2, h3, _, h4, h5⟩
  · omega
  · obtain ⟨id, b, s, e0, e1, e2, e3, e4⟩ := h5 i hi
    rw [Nat.add_mul] at e0 e1 e2
    exact ⟨r, q * 3, rfl, h1, h2.lt, id, b, s, (h2.cell _).trans e0, (h2.cell _).trans e1, (h2.cell _).trans e2, e3, e4⟩
theorem rfind1_any {id x : Int} (b : Bool) (s : ByteArray) (h0 : 0 ≤ id) (h1 : id < 2147483648) (h2 : 0 ≤ x) (h3 : x < 2147483648) (w : World) :
    Calls Tryz.prog 153 #[.agg #[.int .i64 id, .bool b, .string s], .int .i64 x] w fun r w' => r = .returned (.int .i64 (id - x)) ∧ Below w.heap.size w w' := by
  have hb := hid ((Below.refl w.heap.size w).alloc (Nat.le_refl _) (.cells #[.int .i64 id, .bool b, .string s] 191))
  have hw : IntKind.i64.wrap (id - x) = id - x := by rw [IntKind.wrap_i64]; omega
  go_enter Tryz.func153, Tryz.ntmps153
  go_wp2_with fail
  go_ret
  exact ⟨rfl, hb.out⟩
/-- A place is given back; behind all, where all lie below x. -/
def RFindX (n : Nat) (all : Prop) (e : Ending) : Prop := ∃ (i : Nat) (t : Bool), i ≤ n ∧ (t = true → i < n) ∧ (all → i = n ∧ t = false) ∧ e = .returned (.tuple #[.int .i64 i, .bool t])
set_option maxRecDepth 100000 in
set_option maxHeartbeats 1600000 in
theorem rbin_any (h : RRow S w A n c F) (hn : n ≤ 1000000) (hF : F ≤ 2147483648) {x : Int} (hx : 0 ≤ x) (hx2 : x < 2147483648) :
    Calls Tryz.prog 152 #[.slice A n c, .int .i64 x, .func (.func 153) #[] #[]] w fun e w' => RFindX n (F ≤ x) e ∧ Below w.heap.size w w' := by
  have H := hid h
  clear h
  go_enter Tryz.func152, Tryz.ntmps152
  go_wp2_with fail
  go_loopw [9, 10] (fun v9 v10 wr => ∃ i j : Nat, i ≤ j ∧ j ≤ n ∧ Hid (F ≤ x → j = n) ∧ v9 = .int .i64 i ∧ v10 = .int .i64 j ∧ Hid (Below w.heap.size w wr)) (fun v9 v10 _ => (intOf v10).toNat - (intOf v9).toNat)
  case atStart => exact ⟨0, n, Nat.zero_le _, Nat.le_refl _, hid fun _ => rfl, rfl, rfl, Below.refl _ _⟩
  case round =>
    obtain ⟨i, j, hij, hjn, HJ, rfl, rfl, hB⟩ := hrel
    by_cases hlt : i < j
    · obtain ⟨m, hm⟩ : ∃ m : Nat, m = (i + j) / 2 := ⟨_, rfl⟩
      have hmi : i ≤ m := by omega
      have hmj : m < j := by omega
      have hmn : m < n := by omega
      have hmm : Hid (((i : Int) + (j : Int)) / 2 = (m : Int)) := by show _ = _; omega
      have HM := hid hm
      clear hm
      have hr := H.out.keep (w' := wr) fun k _ hk => hB.out.block k hk
      obtain ⟨r, q, rfl, _, _, id, b, s, e0, e1, e2, e3, e4⟩ := hr.three hmn
      have hwr := hB.out.size
      clear hr
      have hcall := hid (rfind1_any (id := id) (x := x) b s e3 (by omega) hx hx2 wr)
      have hlt' : Hid (F ≤ x → id - x < 0) := hid fun h => by omega
      clear e3 e4
      go_upto_region 5 with (fail)
      rw [hmm.out]
      go_wp2_with fail
      refine hcall.out.mono ?_
      rintro q w1 ⟨rfl, h1⟩
      have H1 := hid (hB.out.trans (h1.mono hwr))
      clear h1
      by_cases hv : id - x < 0
      · go_wp2_with fail
        go_roundw
        case rel => exact ⟨m + 1, j, by omega, by omega, HJ, by go_num, rfl, H1⟩
        case measure => simp [intOf]; omega
      · have hJ2 : Hid (F ≤ x → m = n) := hid fun h => absurd (hlt'.out h) hv
        go_wp2_with fail
        go_roundw
        case rel => exact ⟨i, m, by omega, by omega, hJ2, rfl, rfl, H1⟩
        case measure => simp [intOf]; omega
    · obtain rfl : i = j := by omega
      have hwr := hB.out.size
      by_cases hin : i < n
      · have hr := H.out.keep (w' := wr) fun k _ hk => hB.out.block k hk
        obtain ⟨r, q, rfl, _, _, id, b, s, e0, e1, e2, e3, e4⟩ := hr.three hin
        have hcall := hid (rfind1_any (id := id) (x := x) b s e3 (by omega) hx hx2 wr)
        have hno : Hid (F ≤ x → False) := hid fun h => by have := HJ.out h; omega
        clear hr e3 e4
        go_wp2_with fail
        refine hcall.out.mono ?_
        rintro q w1 ⟨rfl, h1⟩
        have H1 := hid (hB.out.trans (h1.mono hwr))
        clear h1
        go_wp2_with fail
        go_ret2
        exact ⟨⟨i, _, hjn, fun _ => hin, fun h => (hno.out h).elim, rfl⟩, H1.out⟩
      · have d0 : decide (i < n) = false := by simp; omega
        go_wp2_with fail
        go_ret2
        exact ⟨⟨i, false, hjn, (fun h => by cases h), fun _ => ⟨by omega, rfl⟩, rfl⟩, hB.out⟩
set_option maxHeartbeats 1600000 in
theorem rmay_any {a b : Int} (h0 : 0 ≤ a) (h1 : a < 64) (h2 : 0 ≤ b) (h3 : b < 2147483648) (w : World) : Calls Tryz.prog 90 #[.int .i64 a, .int .i64 b] w fun e w' => e = .returned (.bool true) ∧ w = w' := by
  go_enter Tryz.func90, Tryz.ntmps90
  go_wp2_with fail
  go_ret
  exact ⟨rfl, rfl⟩
end
end Go.Proofs.YtopbojifllnckaaGreatDoor
