/- The manager: free. The manager: Epoch, does. What a command does to the stripes: plain laws. The manager: grant. The manager: commit. -/
import Derived.Test.YtopbojifllnckaaGreatDoorG31
namespace Go.Proofs.YtopbojifllnckaaGreatDoor
open Go.RowKit
attribute [local irreducible] wpQuiet
section
variable {B : Nat} {T : Nat → Nat} {w w' : World} {gm p1 p2 p3 p4 p5 p6 : Nat} {L L' : List Str} {ep ep' : Int} {N : Nat} {f f' : Int → Int}
theorem freL_len (L : List Str) (id : Int) : (freL L id).length = L.length := by
  unfold freL
  split
  · split
    · split
      · simp
      · rfl
    · rfl
  · rfl
theorem comL_len (L : List Str) (id ow : Int) : (comL L id ow).length = L.length := by
  unfold comL
  split
  · split
    · split
      · simp
      · rfl
    · rfl
  · rfl
theorem freE_lt (L : List Str) (id : Int) : freE L id < 17 := by
  unfold freE
  split
  · split
    · split <;> omega
    · omega
  · omega
theorem comE_lt (L : List Str) (id ow : Int) : comE L id ow < 17 := by
  unfold comE
  split
  · split
    · split <;> omega
    · omega
  · omega
set_option maxRecDepth 100000 in
set_option maxHeartbeats 1600000 in
theorem free_any (h : Mgr B T w gm p1 p2 p3 p4 p5 p6 L ep N f) (cl sq kd a b c d e : Int) (hN : N ≤ 100000) :
    Calls Tryz.prog 95 #[.pointer (some ⟨gm, 0, none⟩), .agg #[.int .i64 cl, .int .i64 sq, .int .i64 kd, .int .i64 a, .int .i64 b, .int .i64 c, .int .i64 d, .int .i64 e]] w (DEnd B T w gm p1 p2 p3 p4 p5 p6 N f fun L' _ _ _ => L' = freL L a) := by
  obtain ⟨W, hW⟩ : ∃ W, W = w.alloc (.cells #[.int .i64 cl, .int .i64 sq, .int .i64 kd, .int .i64 a, .int .i64 b, .int .i64 c, .int .i64 d, .int .i64 e] 30) := ⟨_, rfl⟩
  have hb : Below w.heap.size w W := by rw [hW]; exact (Below.refl _ _).alloc (Nat.le_refl _) _
  have hBx : Blk W w.heap.size 30 #[.int .i64 cl, .int .i64 sq, .int .i64 kd, .int .i64 a, .int .i64 b, .int .i64 c, .int .i64 d, .int .i64 e] := by rw [hW]; exact Blk.new w 30 _
  have hm := h.below hb
  have hT0 : T w.heap.size = 0 := h.fits.zero (Nat.le_refl _)
  obtain ⟨gone, hg⟩ := hm.blk
  have b3 : W.cell? ⟨w.heap.size, 3, none⟩ = some (.int .i64 a) := (hBx.cell 3).trans rfl
  have hgl := hg.lt
  have hbl := hBx.lt
  have g1 := hm.cell 1 _ (by decide) rfl
  obtain ⟨r, hr⟩ : ∃ r, r = freE L a := ⟨_, rfl⟩
  have hcall : Hid (∀ W2, W2 = W.drewN 1 → Calls Tryz.prog 160 #[.pointer (some ⟨p2, 0, none⟩), .int .i64 a] W2 fun e0 w' => e0 = .returned (.int .i64 r) ∧ ∃ T', Mgr B T' w' gm p1 p2 p3 p4 p5 p6 (freL L a) ep N f ∧ Goes T w T' w' ∧ Blk w' w.heap.size 30 #[.int .i64 cl, .int .i64 sq, .int .i64 kd, .int .i64 a, .int .i64 b, .int .i64 c, .int .i64 d, .int .i64 e]) := by
    show ∀ W2, _
    intro W2 hW2
    have hb2 : Below W.heap.size W W2 := by rw [hW2]; exact below_drewN (Below.refl _ _) 1
    have hm2 := hm.below hb2
    refine (sFree_any hm2.smp a).mono ?_
    rintro e0 w' ⟨he, h1, h2, h3⟩
    obtain ⟨m1, m2⟩ := hm2.smp_ (h1.mono fun _ h => .inl h) h2 (by rw [freL_len]; exact hm2.len)
    rw [hr]
    exact ⟨he, _, m1, (Goes.below (hb.trans (hb2.mono hb.size))).trans m2, (hBx.below hb2 hBx.lt).only h2 (by show ¬ T w.heap.size = 2; rw [hT0]; decide)⟩
  have hr17 : r < 17 := by rw [hr]; exact freE_lt L a
  clear hm hg hBx hb h hr
  go_enter Tryz.func95, Tryz.ntmps95
  go_upto_region 1 with (fail)
  rw [← hW]
  clear hW
  go_still_tail 6, (by kernel_rfl)
  change wpList _ _ _ _ _ (W.drewN 1)
  go_wp2_with fail
  refine (hcall.out _ rfl).mono ?_
  rintro e0 w' ⟨rfl, T', hx, hy, hz⟩
  have HX := hid hx
  have HY := hid hy
  have q3' : w'.cell? ⟨gm, 3, none⟩ = some (.pointer (some ⟨p4, 0, none⟩)) := hx.cell 3 _ (by decide) rfl
  have q3 : w'.cell? ⟨w.heap.size, 3, none⟩ = some (.int .i64 a) := (hz.cell 3).trans rfl
  have hgl' : gm < w'.heap.size := by obtain ⟨_, hq⟩ := hx.blk; exact hq.lt
  have hbl' : w.heap.size < w'.heap.size := hz.lt
  clear hx hy hz g1 b3
  by_cases h0 : r = 0
  · subst h0
    have hcall2 : Hid (∀ W2, W2 = w'.drewN 1 → Calls Tryz.prog 161 #[.pointer (some ⟨p4, 0, none⟩), .int .i64 a] W2 fun e0 w2 => RBool e0 ∧ ∃ T2, Mgr B T2 w2 gm p1 p2 p3 p4 p5 p6 (freL L a) ep N f ∧ Goes T w T2 w2) := by
      show ∀ W2, _
      intro W2 hW2
      have hb2 : Below w'.heap.size w' W2 := by rw [hW2]; exact below_drewN (Below.refl _ _) 1
      have hm2 := HX.out.below hb2
      refine (uDrop_any hm2.usg (by omega) a).mono ?_
      rintro e0 w2 ⟨he, h1, h2⟩
      obtain ⟨m1, m2⟩ := hm2.usg_ h1 h2
      exact ⟨he, _, m1, (HY.out.trans (Goes.below hb2)).trans m2⟩
    go_upto_region 3 with (fail)
    go_still_tail 6, (by kernel_rfl)
    change wpList _ _ _ _ _ (w'.drewN 1)
    go_wp2_with fail
    refine (hcall2.out _ rfl).mono ?_
    rintro e0 w2 ⟨⟨t, rfl⟩, T2, hx2, hy2⟩
    have HX2 := hid hx2
    have HY2 := hid hy2
    clear hx2 hy2 q3 q3'
    go_wp2_with fail
    go_ret2
    exact ⟨none, 0, 0, [], 0, T2, _, ep, rfl, rfl, holds_nil _ _, (fun x hx => by cases hx), by omega, by omega, HX2.out, HY2.out, rfl⟩
  · have d0 : ((r : Int) == 0) = false := by simp; omega
    have d1 : (r == 0) = false := by simp; omega
    go_wp2_with fail
    go_ret2
    exact ⟨none, 0, 0, [], r, T', _, ep, rfl, rfl, holds_nil _ _, (fun x hx => by cases hx), by omega, by omega, HX.out, HY.out, rfl⟩
end
end Go.Proofs.YtopbojifllnckaaGreatDoor
namespace Go.Proofs.YtopbojifllnckaaGreatDoor
open Go.RowKit
attribute [local irreducible] wpQuiet
theorem does_1 (w : World) : Calls Tryz.prog 41 #[.int .i64 1] w fun e w' => e = .returned (.func (.func 93) #[] #[]) ∧ w = w' := by
  go_enter Tryz.func41, Tryz.ntmps41
  go_wp2_with fail
  go_ret
  exact ⟨rfl, rfl⟩
theorem does_2 (w : World) : Calls Tryz.prog 41 #[.int .i64 2] w fun e w' => e = .returned (.func (.func 94) #[] #[]) ∧ w = w' := by
  go_enter Tryz.func41, Tryz.ntmps41
  go_wp2_with fail
  go_ret
  exact ⟨rfl, rfl⟩
theorem does_3 (w : World) : Calls Tryz.prog 41 #[.int .i64 3] w fun e w' => e = .returned (.func (.func 95) #[] #[]) ∧ w = w' := by
  go_enter Tryz.func41, Tryz.ntmps41
  go_wp2_with fail
  go_ret
  exact ⟨rfl, rfl⟩
theorem does_4 (w : World) : Calls Tryz.prog 41 #[.int .i64 4] w fun e w' => e = .returned (.func (.func 96) #[] #[]) ∧ w = w' := by
  go_enter Tryz.func41, Tryz.ntmps41
  go_wp2_with fail
  go_ret
  exact ⟨rfl, rfl⟩
theorem does_5 (w : World) : Calls Tryz.prog 41 #[.int .i64 5] w fun e w' => e = .returned (.func (.func 97) #[] #[]) ∧ w = w' := by
  go_enter Tryz.func41, Tryz.ntmps41
  go_wp2_with fail
  go_ret
  exact ⟨rfl, rfl⟩
theorem does_6 (w : World) : Calls Tryz.prog 41 #[.int .i64 6] w fun e w' => e = .returned (.func (.func 98) #[] #[]) ∧ w = w' := by
  go_enter Tryz.func41, Tryz.ntmps41
  go_wp2_with fail
  go_ret
  exact ⟨rfl, rfl⟩
theorem does_7 (w : World) : Calls Tryz.prog 41 #[.int .i64 7] w fun e w' => e = .returned (.func (.func 99) #[] #[]) ∧ w = w' := by
  go_enter Tryz.func41, Tryz.ntmps41
  go_wp2_with fail
  go_ret
  exact ⟨rfl, rfl⟩
theorem does_8 (w : World) : Calls Tryz.prog 41 #[.int .i64 8] w fun e w' => e = .returned (.func (.func 100) #[] #[]) ∧ w = w' := by
  go_enter Tryz.func41, Tryz.ntmps41
  go_wp2_with fail
  go_ret
  exact ⟨rfl, rfl⟩
theorem does_9 (w : World) : Calls Tryz.prog 41 #[.int .i64 9] w fun e w' => e = .returned (.func (.func 101) #[] #[]) ∧ w = w' := by
  go_enter Tryz.func41, Tryz.ntmps41
  go_wp2_with fail
  go_ret
  exact ⟨rfl, rfl⟩
section
variable {B : Nat} {T : Nat → Nat} {w w' : World} {gm p1 p2 p3 p4 p5 p6 : Nat} {L L' : List Str} {ep ep' : Int} {N : Nat} {f f' : Int → Int}
set_option maxHeartbeats 1600000 in
theorem mEpoch_any (h : Mgr B T w gm p1 p2 p3 p4 p5 p6 L ep N f) : Calls Tryz.prog 10 #[.pointer (some ⟨gm, 0, none⟩)] w fun e w' => e = .returned (.int .i64 ep) ∧ w = w' := by
  have g0 := h.cell 0 _ (by decide) rfl
  have hc := hid (gEpoch_any h.grp)
  clear h
  go_enter Tryz.func10, Tryz.ntmps10
  go_wp2_with fail
  refine hc.out.mono ?_
  rintro e w' ⟨rfl, rfl⟩
  go_wp2_with fail
  go_ret
  exact ⟨rfl, rfl⟩
end
end Go.Proofs.YtopbojifllnckaaGreatDoor
namespace Go.Proofs.YtopbojifllnckaaGreatDoor
/-- Begun by cl under another epoch. -/
def Stale (L : List Str) (ep a cl : Int) : Prop := ∃ s, 0 ≤ a ∧ L[a.toNat]? = some s ∧ s.st = 1 ∧ s.ow = cl ∧ s.ep ≠ ep
/-- What a command of kind kd does to the stripes, and what it tells. -/
def DoR (kd cl a : Int) (L : List Str) (ep : Int) (L' : List Str) (ep' : Int) (l : List Int) (r : Nat) : Prop :=
  (kd = 1 ∧ ((L' = L ∧ r ≠ 0) ∨ ∃ s, L' = L ++ [s] ∧ s.st = 1 ∧ s.ow = cl ∧ s.ep = ep ∧ ep' = ep ∧ l = [(L.length : Int), ep] ∧ r = 0)) ∨
  (kd = 2 ∧ ep' = ep ∧ ((Stale L ep a cl ∧ L' = L ∧ r = 10) ∨ (¬ Stale L ep a cl ∧ L' = comL L a cl ∧ r = comE L a cl))) ∨
  (kd = 3 ∧ L' = freL L a) ∨ (kd ≠ 1 ∧ kd ≠ 2 ∧ kd ≠ 3 ∧ L' = L)
/-- Stripe j was begun by cl under ep, and still is so. -/
def OwnS (L : List Str) (j : Nat) (cl ep : Int) : Prop := ∃ s, L[j]? = some s ∧ s.st = 1 ∧ s.ow = cl ∧ s.ep = ep
theorem OwnS.lt {L : List Str} {j : Nat} {cl ep : Int} (h : OwnS L j cl ep) : j < L.length := by
  obtain ⟨s, h, _⟩ := h
  exact (List.getElem?_eq_some_iff.1 h).1
theorem OwnS.snoc {L : List Str} {j : Nat} {cl ep : Int} (h : OwnS L j cl ep) (s : Str) : OwnS (L ++ [s]) j cl ep := by
  have := h.lt
  obtain ⟨t, h1, h2⟩ := h
  exact ⟨t, (by rw [List.getElem?_append_left this]; exact h1), h2⟩
theorem OwnS.com {L : List Str} {j : Nat} {cl ep : Int} (h : OwnS L j cl ep) {a cl' : Int} (hc : cl' ≠ cl) : OwnS (comL L a cl') j cl ep := by
  obtain ⟨s, h1, h2, h3, h4⟩ := h
  unfold comL
  split
  · split
    · next t ht =>
      split
      · next hh =>
        by_cases hj : a.toNat = j
        · rw [hj, h1] at ht
          cases ht
          exact absurd (hh.2.symm.trans h3) hc
        · exact ⟨s, (by rw [List.getElem?_set_ne hj]; exact h1), h2, h3, h4⟩
      · exact ⟨s, h1, h2, h3, h4⟩
    · exact ⟨s, h1, h2, h3, h4⟩
  · exact ⟨s, h1, h2, h3, h4⟩
theorem OwnS.fre {L : List Str} {j : Nat} {cl ep : Int} (h : OwnS L j cl ep) {a : Int} (ha : a ≠ j) : OwnS (freL L a) j cl ep := by
  obtain ⟨s, h1, h2, h3, h4⟩ := h
  unfold freL
  split
  · next ha0 =>
    split
    · next t ht =>
      split
      · have hj : a.toNat ≠ j := by omega
        exact ⟨s, (by rw [List.getElem?_set_ne hj]; exact h1), h2, h3, h4⟩
      · exact ⟨s, h1, h2, h3, h4⟩
    · exact ⟨s, h1, h2, h3, h4⟩
  · exact ⟨s, h1, h2, h3, h4⟩
theorem OwnS.do_ {L L' : List Str} {j : Nat} {cl cl' ep ep0 ep' kd a : Int} {l : List Int} {r : Nat} (h : OwnS L j cl ep0) (hd : DoR kd cl' a L ep L' ep' l r) (hc : cl' ≠ cl) (ha : ¬ (kd = 3 ∧ a = j)) : OwnS L' j cl ep0 := by
  rcases hd with ⟨_, ⟨e, _⟩ | ⟨s, e, _⟩⟩ | ⟨_, _, ⟨_, e, _⟩ | ⟨_, e, _⟩⟩ | ⟨h3, e⟩ | ⟨_, _, _, e⟩
  · rw [e]; exact h
  · rw [e]; exact h.snoc s
  · rw [e]; exact h
  · rw [e]; exact h.com hc
  · rw [e]; exact h.fre fun e => ha ⟨h3, e⟩
  · rw [e]; exact h
theorem OwnS.begin_ {L L' : List Str} {cl ep ep' a : Int} {l : List Int} (h : DoR 1 cl a L ep L' ep' l 0) : OwnS L' L.length cl ep ∧ ep' = ep ∧ l = [(L.length : Int), ep] := by
  rcases h with ⟨_, ⟨_, e⟩ | ⟨s, e, h1, h2, h3, h4, h5, _⟩⟩ | ⟨h, _⟩ | ⟨h, _⟩ | ⟨h, _⟩
  · exact absurd rfl e
  · exact ⟨⟨s, (by rw [e]; simp), h1, h2, h3⟩, h4, h5⟩
  · omega
  · omega
  · omega
theorem OwnS.commit_ {L L' : List Str} {j : Nat} {cl ep ep0 ep' : Int} {l : List Int} {r : Nat} (h : OwnS L j cl ep0) (hd : DoR 2 cl j L ep L' ep' l r) :
    ep' = ep ∧ ∃ s, L'[j]? = some s ∧ ((ep = ep0 ∧ r = 0 ∧ s.st = 2) ∨ (ep ≠ ep0 ∧ r = 10 ∧ s.st = 1)) := by
  obtain ⟨s, h1, h2, h3, h4⟩ := h
  have hj : ((j : Int)).toNat = j := by omega
  rcases hd with ⟨h, _⟩ | ⟨_, he, ⟨⟨t, _, k1, _, _, k4⟩, e, hr⟩ | ⟨hs, e, hr⟩⟩ | ⟨h, _⟩ | ⟨_, h, _⟩
  · omega
  · rw [hj, h1] at k1
    cases k1
    exact ⟨he, s, (by rw [e]; exact h1), .inr ⟨fun x => k4 (by rw [h4, x]), hr, h2⟩⟩
  · refine ⟨he, { s with st := 2 }, ?_, .inl ⟨?_, ?_, rfl⟩⟩
    · rw [e]
      unfold comL
      rw [if_pos (by omega), hj, h1]
      simp only [h2, h3, and_self, if_true]
      rw [List.getElem?_set_self (List.getElem?_eq_some_iff.1 h1).1]
    · by_cases hx : ep = ep0
      · exact hx
      · exact absurd ⟨s, by omega, (by rw [hj]; exact h1), h2, h3, fun x => hx (by rw [← x, h4])⟩ hs
    · rw [hr]
      unfold comE
      rw [if_pos (by omega), hj, h1]
      simp only [h2, h3, and_self, if_true]
  · omega
  · exact absurd rfl h
end Go.Proofs.YtopbojifllnckaaGreatDoor
namespace Go.Proofs.YtopbojifllnckaaGreatDoor
open Go.RowKit
attribute [local irreducible] wpQuiet
section
variable {B : Nat} {T : Nat → Nat} {w w' : World} {gm p1 p2 p3 p4 p5 p6 : Nat} {L L' : List Str} {ep ep' : Int} {N : Nat} {f f' : Int → Int}
theorem Mgr.far (h : Mgr B T w gm p1 p2 p3 p4 p5 p6 L ep N f) {z : Nat} (hz : T z = 0) (i : Nat) (v : Value) : Mgr B T (w.setCell ⟨z, i, none⟩ v) gm p1 p2 p3 p4 p5 p6 L ep N f := by
  obtain ⟨⟨gone, h1⟩, h2, h3, h4, h5, h6, h7, h8, h9, h10⟩ := h
  have hk : ∀ i', i' ≠ 0 → ∀ k, T k = i' → k < w.heap.size → (w.setCell ⟨z, i, none⟩ v).heap[k]? = w.heap[k]? := fun i' hi k hk _ => Below.heap_setCell w ⟨z, i, none⟩ _ k (fun e => hi (by rw [← hk, e]; exact hz))
  exact ⟨⟨gone, (hk 7 (by decide) gm h2 h1.lt).trans h1⟩, h2, h3.keep (hk 1 (by decide)), h4.keep (hk 2 (by decide)), h5.keep (hk 3 (by decide)), h6.keep (hk 4 (by decide)), h7.keep (hk 5 (by decide)), h8.keep (hk 6 (by decide)), ⟨by simpa [World.setCell] using h9.1, fun k hk => by simpa [World.setCell] using h9.2 k hk⟩, h10⟩
theorem Goes.far {T' : Nat → Nat} (h : Goes T w T' w') {z : Nat} (hz : w.heap.size ≤ z) (i : Nat) (v : Value) : Goes T w T' (w'.setCell ⟨z, i, none⟩ v) := ⟨h.only.setCell (p := ⟨z, i, none⟩) (.inr hz) v, h.free⟩
theorem two64 {x y : Int} (h : I64 x) (k : I64 y) : ∀ z ∈ [x, y], I64 z := fun z hz => by
  simp only [List.mem_cons, List.not_mem_nil, or_false] at hz
  rcases hz with rfl | rfl
  · exact h
  · exact k
theorem cellAl {w' : World} {p : Addr} {v : Value} (hlt : p.block < w'.heap.size) (o : Obj) (h : w'.cell? p = some v) : (w'.alloc o).cell? p = some v := (World.cell?_of_block (Below.heap_alloc w' o p.block hlt)).trans h
theorem cell4 {w' : World} {z : Nat} {p : Addr} {v : Value} (hne : p.block ≠ z) (x0 x1 x2 x3 : Value) (h : w'.cell? p = some v) : ((((w'.setCell ⟨z, 0, none⟩ x0).setCell ⟨z, 1, none⟩ x1).setCell ⟨z, 2, none⟩ x2).setCell ⟨z, 3, none⟩ x3).cell? p = some v := by
  have e := ((Below.heap_setCell _ ⟨z, 3, none⟩ x3 p.block hne).trans (Below.heap_setCell _ ⟨z, 2, none⟩ x2 p.block hne)).trans ((Below.heap_setCell _ ⟨z, 1, none⟩ x1 p.block hne).trans (Below.heap_setCell w' ⟨z, 0, none⟩ x0 p.block hne))
  exact (World.cell?_of_block e).trans h
set_option maxRecDepth 100000 in
set_option maxHeartbeats 1600000 in
theorem grant_any (h : Mgr B T w gm p1 p2 p3 p4 p5 p6 L ep N f) (cl sq kd a b c d e : Int) (hN : N ≤ 100000) :
    Calls Tryz.prog 100 #[.pointer (some ⟨gm, 0, none⟩), .agg #[.int .i64 cl, .int .i64 sq, .int .i64 kd, .int .i64 a, .int .i64 b, .int .i64 c, .int .i64 d, .int .i64 e]] w (DEnd B T w gm p1 p2 p3 p4 p5 p6 (N + 1) f fun L' _ _ _ => L' = L) := by
  obtain ⟨W, hW⟩ : ∃ W, W = w.alloc (.cells #[.int .i64 cl, .int .i64 sq, .int .i64 kd, .int .i64 a, .int .i64 b, .int .i64 c, .int .i64 d, .int .i64 e] 30) := ⟨_, rfl⟩
  have hb : Below w.heap.size w W := by rw [hW]; exact (Below.refl _ _).alloc (Nat.le_refl _) _
  have hBx : Blk W w.heap.size 30 #[.int .i64 cl, .int .i64 sq, .int .i64 kd, .int .i64 a, .int .i64 b, .int .i64 c, .int .i64 d, .int .i64 e] := by rw [hW]; exact Blk.new w 30 _
  have hm := h.below hb
  have hT0 : T w.heap.size = 0 := h.fits.zero (Nat.le_refl _)
  obtain ⟨gone, hg⟩ := hm.blk
  have b0 : W.cell? ⟨w.heap.size, 0, none⟩ = some (.int .i64 cl) := (hBx.cell 0).trans rfl
  have b3 : W.cell? ⟨w.heap.size, 3, none⟩ = some (.int .i64 a) := (hBx.cell 3).trans rfl
  have b4 : W.cell? ⟨w.heap.size, 4, none⟩ = some (.int .i64 b) := (hBx.cell 4).trans rfl
  have b5 : W.cell? ⟨w.heap.size, 5, none⟩ = some (.int .i64 c) := (hBx.cell 5).trans rfl
  have hgl := hg.lt
  have hbl := hBx.lt
  have g4 := hm.cell 4 _ (by decide) rfl
  have hcall : Hid (∀ W2, Below W.heap.size W W2 → Calls Tryz.prog 171 #[.pointer (some ⟨p5, 0, none⟩), .int .i64 a, .int .i64 cl, .int .i64 b, .int .i64 c] W2 fun e0 w' => ∃ (x0 x1 x2 x3 : Int) (r : Nat), e0 = .returned (.tuple #[.agg #[.int .i64 x0, .int .i64 x1, .int .i64 x2, .int .i64 x3], .int .i64 r]) ∧ gm < w'.heap.size ∧ w.heap.size < w'.heap.size ∧ (w'.cell? ⟨gm, 4, none⟩ = some (.pointer (some ⟨p5, 0, none⟩)) ∧ w'.cell? ⟨w.heap.size, 0, none⟩ = some (.int .i64 cl) ∧ w'.cell? ⟨w.heap.size, 3, none⟩ = some (.int .i64 a) ∧ w'.cell? ⟨w.heap.size, 4, none⟩ = some (.int .i64 b) ∧ w'.cell? ⟨w.heap.size, 5, none⟩ = some (.int .i64 c)) ∧ Hid ((I64 x0 ∧ I64 x1 ∧ I64 x2 ∧ I64 x3) ∧ r < 17 ∧ (∃ T', Mgr B T' w' gm p1 p2 p3 p4 p5 p6 L ep (N + 1) f ∧ Goes T w T' w' ∧ ∀ k, T k = 0 → k < W2.heap.size → T' k = 0) ∧ ∀ k t cs, T k = 0 → Blk W2 k t cs → Blk w' k t cs)) := by
    show ∀ W2, _
    intro W2 hb2
    have hm2 := hm.below hb2
    refine (Grant_any hm2.lea hN a cl b c).mono ?_
    rintro e0 w' ⟨⟨v, r, ⟨x0, x1, x2, x3, rfl, hin⟩, he, hr⟩, h1, h2⟩
    obtain ⟨m1, m2⟩ := (hm2.more (Nat.le_succ N)).lea_ (h1.mono (fun _ h => .inl h) (Nat.le_refl _)) h2
    have hB' : Blk w' w.heap.size 30 #[.int .i64 cl, .int .i64 sq, .int .i64 kd, .int .i64 a, .int .i64 b, .int .i64 c, .int .i64 d, .int .i64 e] := (hBx.below hb2 hBx.lt).only h2 (by show ¬ T w.heap.size = 5; rw [hT0]; decide)
    exact ⟨x0, x1, x2, x3, r, he, (by obtain ⟨_, hq⟩ := m1.blk; exact hq.lt), hB'.lt, ⟨m1.cell 4 _ (by decide) rfl, (hB'.cell 0).trans rfl, (hB'.cell 3).trans rfl, (hB'.cell 4).trans rfl, (hB'.cell 5).trans rfl⟩, hin.out, hr, ⟨_, m1, (Goes.below (hb.trans (hb2.mono hb.size))).trans m2, fun k hk hl => m2.free k hl hk⟩, fun k t cs hk hB => hB.only h2 (by show ¬ T k = 5; rw [hk]; decide)⟩
  have hne1 : gm ≠ W.heap.size := Nat.ne_of_lt hgl
  have hne2 : w.heap.size ≠ W.heap.size := Nat.ne_of_lt hbl
  have hTW : T W.heap.size = 0 := hm.fits.zero (Nat.le_refl _)
  have hW0 : Hid (Below W.heap.size W W.drew) := (Below.refl _ _).drew
  have hW1 : Hid (Below W.heap.size W (W.alloc (.cells #[.int .i64 0, .int .i64 0, .int .i64 0, .int .i64 0] 277)).drew) := ((Below.refl _ _).alloc (Nat.le_refl _) _).drew
  clear hm hg hBx hb h
  go_enter Tryz.func100, Tryz.ntmps100
  go_upto_region 1 with (fail)
  rw [← hW]
  clear hW
  go_cut [6, 7] (fun s6 s7 wx => ∃ (z : Nat) (x2 x3 : Int) (r : Nat) (T' : Nat → Nat), s6 = .pointer (some ⟨z, 0, none⟩) ∧ s7 = .int .i64 r ∧ r < 17 ∧ wx.cell? ⟨z, 2, none⟩ = some (.int .i64 x2) ∧ wx.cell? ⟨z, 3, none⟩ = some (.int .i64 x3) ∧ Hid ((I64 x2 ∧ I64 x3) ∧ Mgr B T' wx gm p1 p2 p3 p4 p5 p6 L ep (N + 1) f ∧ Goes T w T' wx))
  case first =>
    go_region_held3 (fun w' => w'.cell? ⟨gm, 4, none⟩ = some (.pointer (some ⟨p5, 0, none⟩)) ∧ w'.cell? ⟨w.heap.size, 0, none⟩ = some (.int .i64 cl) ∧ w'.cell? ⟨w.heap.size, 3, none⟩ = some (.int .i64 a) ∧ w'.cell? ⟨w.heap.size, 4, none⟩ = some (.int .i64 b) ∧ w'.cell? ⟨w.heap.size, 5, none⟩ = some (.int .i64 c)) (first | (with_reducible exact hS) | (with_reducible exact ⟨cell4 hne1 _ _ _ _ hS.1, cell4 hne2 _ _ _ _ hS.2.1, cell4 hne2 _ _ _ _ hS.2.2.1, cell4 hne2 _ _ _ _ hS.2.2.2.1, cell4 hne2 _ _ _ _ hS.2.2.2.2⟩) | (with_reducible exact ⟨cellAl hgl' _ hS.1, cellAl hbl' _ hS.2.1, cellAl hbl' _ hS.2.2.1, cellAl hbl' _ hS.2.2.2.1, cellAl hbl' _ hS.2.2.2.2⟩) | (with_reducible exact ⟨cellAl hgl _ g4, cellAl hbl _ b0, cellAl hbl _ b3, cellAl hbl _ b4, cellAl hbl _ b5⟩) | go_keep) ((go_at_call 171; first
      | (refine (hcall.out _ hW0.out).mono ?_; rintro e0 w' ⟨x0, x1, x2, x3, r, rfl, hgl', hbl', hS, hx⟩)
      | (refine (hcall.out _ hW1.out).mono ?_; rintro e0 w' ⟨x0, x1, x2, x3, r, rfl, hgl', hbl', hS, hx⟩; have hZZ := hx; have hZ := hx.out.2.2.2 W.heap.size 277 _ hTW (Blk.new W 277 #[.int .i64 0, .int .i64 0, .int .i64 0, .int .i64 0]); have z0 : w'.cell? ⟨W.heap.size, 0, none⟩ = some (.int .i64 0) := (hZ.cell 0).trans rfl; have z1 : w'.cell? ⟨W.heap.size, 1, none⟩ = some (.int .i64 0) := (hZ.cell 1).trans rfl; have z2 : w'.cell? ⟨W.heap.size, 2, none⟩ = some (.int .i64 0) := (hZ.cell 2).trans rfl; have z3 : w'.cell? ⟨W.heap.size, 3, none⟩ = some (.int .i64 0) := (hZ.cell 3).trans rfl; have u0 := hZ.frozen 0; have u1 := hZ.frozen 1; have u2 := hZ.frozen 2; have u3 := hZ.frozen 3)))
    · obtain ⟨⟨i0, i1, i2, i3⟩, hr, ⟨T', m1, m2, m3⟩, _⟩ := hx.out
      have hbb0 : Below w'.heap.size w' (w'.alloc (.cells #[.int .i64 x0, .int .i64 x1, .int .i64 x2, .int .i64 x3] 277)) := (Below.refl _ _).alloc (Nat.le_refl _) _
      have HB := hid hbb0
      have HM := hid (And.intro m1 m2)
      clear hbb0 hcall hS m1 m2 m3
      go_wp2_with fail
      go_meet
      exact ⟨_, x2, x3, r, T', rfl, rfl, hr, (by rw [(Blk.new w' 277 _).cell]; rfl), (by rw [(Blk.new w' 277 _).cell]; rfl), ⟨⟨i2, i3⟩, HM.out.1.below HB.out, HM.out.2.trans (Goes.below HB.out)⟩⟩
    · obtain ⟨⟨i0, i1, i2, i3⟩, hr, ⟨T', m1, m2, m3⟩, m4⟩ := hx.out
      have hz0 : T' W.heap.size = 0 := m3 _ hTW (by simp)
      have hZ2 := (((m4 W.heap.size 277 _ hTW (Blk.new W 277 #[.int .i64 0, .int .i64 0, .int .i64 0, .int .i64 0])).set_ 0 (.int .i64 x0)).set_ 1 (.int .i64 x1)).set_ 2 (.int .i64 x2)
      have hZ3 := hid (hZ2.set_ 3 (.int .i64 x3))
      have n1 := (((m1.far hz0 0 (.int .i64 x0)).far hz0 1 (.int .i64 x1)).far hz0 2 (.int .i64 x2)).far hz0 3 (.int .i64 x3)
      have n2 := (((m2.far (Nat.le_of_lt hbl) 0 (.int .i64 x0)).far (Nat.le_of_lt hbl) 1 (.int .i64 x1)).far (Nat.le_of_lt hbl) 2 (.int .i64 x2)).far (Nat.le_of_lt hbl) 3 (.int .i64 x3)
      have HN := hid (And.intro n1 n2)
      clear hcall hS m1 m2 m3 m4 n1 n2 hZ2
      go_wp2_with fail
      go_meet
      exact ⟨_, x2, x3, r, T', rfl, rfl, hr, (hZ3.out.cell 2).trans rfl, (hZ3.out.cell 3).trans rfl, ⟨⟨i2, i3⟩, HN.out.1, HN.out.2⟩⟩
  case rest =>
    obtain ⟨z, x2, x3, r, T', rfl, rfl, hr, z2, z3, HX⟩ := hcut
    go_wp2_with fail
    go_ret2
    have hbb := (Below.refl wc.heap.size wc).alloc (Nat.le_refl _) (.cells #[.int .i64 x3, .int .i64 x2] 3)
    exact ⟨_, 2, 2, [x3, x2], r, T', L, ep, rfl, rfl, holds_new _ [x3, x2] 3 _ rfl, two64 HX.out.1.2 HX.out.1.1, by omega, by omega, HX.out.2.1.below hbb, HX.out.2.2.trans (Goes.below hbb), rfl⟩
end
end Go.Proofs.YtopbojifllnckaaGreatDoor
namespace Go.Proofs.YtopbojifllnckaaGreatDoor
open Go.RowKit
attribute [local irreducible] wpQuiet
section
variable {B : Nat} {T : Nat → Nat} {w w' : World} {gm p1 p2 p3 p4 p5 p6 : Nat} {L L' : List Str} {ep ep' : Int} {N : Nat} {f f' : Int → Int}
/-- What Get tells of stripe a. -/
def Told (L : List Str) (a i st ow se ln : Int) (t : Bool) : Prop := (t = true ∧ ∃ s, 0 ≤ a ∧ L[a.toNat]? = some s ∧ s.st = st ∧ s.ow = ow ∧ s.ep = se ∧ s.ln = ln ∧ i = a) ∨
  (t = false ∧ i = 0 ∧ st = 0 ∧ ow = 0 ∧ se = 0 ∧ ln = 0 ∧ (a < 0 ∨ (L.length : Int) ≤ a))
theorem sGet_any {S : Nat → Prop} {g : Nat} (h : Smp S w g L) (a : Int) : Calls Tryz.prog 44 #[.pointer (some ⟨g, 0, none⟩), .int .i64 a] w fun e w' => ∃ (i st ow se ln : Int) (A : Option Addr) (n c : Nat) (xs : List Int) (t : Bool),
    e = .returned (.tuple #[.agg #[.int .i64 i, .int .i64 st, .int .i64 ow, .int .i64 se, .int .i64 ln, .slice A n c], .bool t]) ∧ Told L a i st ow se ln t ∧ Below w.heap.size w w' ∧ xs.length = n ∧ Holds w' w'.heap.size A (nums xs) ∧ n ≤ c ∧ n ≤ 3 := by
  rcases id_cases L a with hi | ⟨j, s, rfl, hs⟩
  · refine (sGet_none h a hi).mono ?_
    rintro e w' ⟨rfl, hb⟩
    exact ⟨0, 0, 0, 0, 0, none, 0, 0, [], false, rfl, .inr ⟨rfl, rfl, rfl, rfl, rfl, rfl, hi⟩, hb, rfl, holds_nil _ _, by omega, by omega⟩
  · have hj : j < L.length := (List.getElem?_eq_some_iff.1 hs).1
    obtain ⟨r, hr⟩ := h.at_ hj
    refine (sGet_ok hr j s hs).mono ?_
    rintro e w' ⟨v, rfl, ⟨xs, hx⟩, hb⟩
    obtain ⟨A, c, rfl⟩ := own_form hx
    have hl := hx.1
    rw [nums_length] at hl
    obtain ⟨q1, q2, _⟩ := own_holdsS hx
    exact ⟨j, s.st, s.ow, s.ep, s.ln, A, 3, c, xs, true, rfl, .inl ⟨rfl, s, by omega, (by simpa using hs), rfl, rfl, rfl, rfl, rfl⟩, hb, by omega, q1, q2, by omega⟩
theorem cell6 {w' : World} {z : Nat} {p : Addr} {v : Value} (hne : p.block ≠ z) (x0 x1 x2 x3 x4 x5 : Value) (h : w'.cell? p = some v) : ((((((w'.setCell ⟨z, 0, none⟩ x0).setCell ⟨z, 1, none⟩ x1).setCell ⟨z, 2, none⟩ x2).setCell ⟨z, 3, none⟩ x3).setCell ⟨z, 4, none⟩ x4).setCell ⟨z, 5, none⟩ x5).cell? p = some v :=
  (World.cell?_of_block ((Below.heap_setCell _ ⟨z, 5, none⟩ x5 p.block hne).trans (Below.heap_setCell _ ⟨z, 4, none⟩ x4 p.block hne))).trans (cell4 hne x0 x1 x2 x3 h)
/-- The stripe's region of commit and move. -/
theorem below6 {w w' : World} {z B : Nat} (h : Below B w w') (hz : B ≤ z) (x0 x1 x2 x3 x4 x5 : Value) : Below B w ((((((w'.setCell ⟨z, 0, none⟩ x0).setCell ⟨z, 1, none⟩ x1).setCell ⟨z, 2, none⟩ x2).setCell ⟨z, 3, none⟩ x3).setCell ⟨z, 4, none⟩ x4).setCell ⟨z, 5, none⟩ x5) :=
  (((((h.setCell (p := ⟨z, 0, none⟩) hz x0).setCell (p := ⟨z, 1, none⟩) hz x1).setCell (p := ⟨z, 2, none⟩) hz x2).setCell (p := ⟨z, 3, none⟩) hz x3).setCell (p := ⟨z, 4, none⟩) hz x4).setCell (p := ⟨z, 5, none⟩) hz x5
end
end Go.Proofs.YtopbojifllnckaaGreatDoor
