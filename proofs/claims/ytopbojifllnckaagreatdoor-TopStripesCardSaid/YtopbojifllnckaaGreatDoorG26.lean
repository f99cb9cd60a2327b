/- frags: Put. servers: at, store. servers: caught, the deferred closures, Put. servers: Put, Get. -/
import Derived.WalkLawsBesides
import Derived.Defers
import Derived.Recover
import Derived.Test.YtopbojifllnckaaGreatDoorG25
import Derived.Test.YtopbojifllnckaaGreatDoorG16
namespace Go.Proofs.YtopbojifllnckaaGreatDoor
open Go.RowKit
attribute [local irreducible] wpQuiet
/-- A writing step's boxes. -/
def Boxes (w : World) (B g a : Nat) (s : ByteArray) (p0 p1 p2 : Nat) : Prop := (w.cell? ⟨p0, 0, none⟩ = some (.pointer (some ⟨g, 0, none⟩)) ∧ B ≤ p0) ∧ (w.cell? ⟨p1, 0, none⟩ = some (.int .i64 a) ∧ B ≤ p1) ∧ (w.cell? ⟨p2, 0, none⟩ = some (.string s) ∧ B ≤ p2)
theorem Boxes.below {w w' : World} {B g a p0 p1 p2 : Nat} {s : ByteArray} (h : Boxes w B g a s p0 p1 p2) (hb : Below w.heap.size w w') : Boxes w' B g a s p0 p1 p2 := by
  obtain ⟨⟨h0, k0⟩, ⟨h1, k1⟩, h2, k2⟩ := h
  exact ⟨⟨(hb.cell (World.block_lt_of_cell? w _ h0)).trans h0, k0⟩, ⟨(hb.cell (World.block_lt_of_cell? w _ h1)).trans h1, k1⟩, (hb.cell (World.block_lt_of_cell? w _ h2)).trans h2, k2⟩
set_option maxRecDepth 100000 in
theorem write_any (g a : Nat) (s : ByteArray) (w : World) : Calls Tryz.prog 241 #[.pointer (some ⟨g, 0, none⟩), .int .i64 a, .string s] w fun e w' => ∃ p0 p1 p2, e = .returned (.func (.func 303) #[] #[.pointer (some ⟨p0, 0, none⟩), .pointer (some ⟨p1, 0, none⟩), .pointer (some ⟨p2, 0, none⟩)]) ∧ Boxes w' w.heap.size g a s p0 p1 p2 ∧ Below w.heap.size w w' := by
  have b0 := Blk.new w 104 #[.pointer (some ⟨g, 0, none⟩)]
  have b1 := Blk.new (w.alloc (.cells #[.pointer (some ⟨g, 0, none⟩)] 104)) 3 #[.int .i64 a]
  have b2 := Blk.new ((w.alloc (.cells #[.pointer (some ⟨g, 0, none⟩)] 104)).alloc (.cells #[.int .i64 a] 3)) 9 #[.string s]
  have c0 := (b0.alloc (.cells #[.int .i64 a] 3)).alloc (.cells #[.string s] 9)
  have c1 := b1.alloc (.cells #[.string s] 9)
  have h1 : (w.alloc (.cells #[.pointer (some ⟨g, 0, none⟩)] 104)).heap.size = w.heap.size + 1 := by simp
  have h2 : ((w.alloc (.cells #[.pointer (some ⟨g, 0, none⟩)] 104)).alloc (.cells #[.int .i64 a] 3)).heap.size = w.heap.size + 2 := by simp
  rw [h1] at c1
  rw [h2] at b2
  have hbb := (((Below.refl w.heap.size w).alloc (Nat.le_refl _) (.cells #[.pointer (some ⟨g, 0, none⟩)] 104)).alloc (by simp) (.cells #[.int .i64 a] 3)).alloc (by rw [h2]; omega) (.cells #[.string s] 9)
  have H : Hid (Boxes (((w.alloc (.cells #[.pointer (some ⟨g, 0, none⟩)] 104)).alloc (.cells #[.int .i64 a] 3)).alloc (.cells #[.string s] 9)) w.heap.size g a s w.heap.size (w.heap.size + 1) (w.heap.size + 2) ∧ Below w.heap.size w (((w.alloc (.cells #[.pointer (some ⟨g, 0, none⟩)] 104)).alloc (.cells #[.int .i64 a] 3)).alloc (.cells #[.string s] 9))) :=
    ⟨⟨⟨(c0.cell 0).trans rfl, Nat.le_refl _⟩, ⟨(c1.cell 0).trans rfl, by omega⟩, (b2.cell 0).trans rfl, by omega⟩, hbb⟩
  clear b0 b1 b2 c0 c1 h1 h2 hbb
  go_enter Tryz.func241, Tryz.ntmps241
  go_wp2_with fail
  go_ret
  exact ⟨_, _, _, rfl, H.out.1, H.out.2⟩
section
variable {S Sd : Nat → Prop} {w w' : World} {g d r c n : Nat} {L : List Ent} {D : List ByteArray}
/-- A slot is written. -/
theorem SlotsAt.set4 (h : SlotsAt w r L) (i : Nat) (e : Ent) (hi : i < L.length) : SlotsAt ((((w.setCell ⟨r, i * 4, none⟩ (.bool e.on)).setCell ⟨r, i * 4 + 1, none⟩ (.int .i64 e.st)).setCell ⟨r, i * 4 + 2, none⟩ (.int .i64 e.ix)).setCell ⟨r, i * 4 + 3, none⟩ (.int .i64 e.sz)) r (L.set i e) := by
  obtain ⟨cs, h1, h2⟩ := h
  have hd : ∀ k v, (entC L[i])[k]? = some v → cs[i * 4 + k]? = some v := h2 i L[i] (List.getElem?_eq_getElem hi)
  have hz : i * 4 + 3 < cs.size := (Array.getElem?_eq_some_iff.1 (hd 3 _ rfl)).1
  refine ⟨_, (((h1.set_ (i * 4) (.bool e.on)).set_ (i * 4 + 1) (.int .i64 e.st)).set_ (i * 4 + 2) (.int .i64 e.ix)).set_ (i * 4 + 3) (.int .i64 e.sz), fun j e' hj k v hv => ?_⟩
  have hk : k < 4 := by have := (List.getElem?_eq_some_iff.1 hv).1; simpa [entC] using this
  simp only [Array.getElem?_setIfInBounds, Array.size_setIfInBounds]
  by_cases hij : i = j
  · subst hij
    rw [List.getElem?_set_self hi] at hj
    cases hj
    match k, hk, hv with
    | 0, _, hv => rw [if_neg (by omega), if_neg (by omega), if_neg (by omega), if_pos (by omega), if_pos (by omega), ← hv]; rfl
    | 1, _, hv => rw [if_neg (by omega), if_neg (by omega), if_pos (by omega), if_pos (by omega), ← hv]; rfl
    | 2, _, hv => rw [if_neg (by omega), if_pos (by omega), if_pos (by omega), ← hv]; rfl
    | 3, _, hv => rw [if_pos (by omega), if_pos (by omega), ← hv]; rfl
  · rw [List.getElem?_set_ne hij] at hj
    rw [if_neg (by omega), if_neg (by omega), if_neg (by omega), if_neg (by omega)]
    exact h2 j e' hj k v hv
theorem FrgAt.set4 (h : FrgAt S Sd w g d r c L D n) (i : Nat) (e : Ent) (hi : i < L.length) :
    FrgAt S Sd ((((w.setCell ⟨r, i * 4, none⟩ (.bool e.on)).setCell ⟨r, i * 4 + 1, none⟩ (.int .i64 e.st)).setCell ⟨r, i * 4 + 2, none⟩ (.int .i64 e.ix)).setCell ⟨r, i * 4 + 3, none⟩ (.int .i64 e.sz)) g d r c (L.set i e) D n := by
  have hgr : g ≠ r := by
    obtain ⟨cs, h1, _⟩ := h.slots
    exact h.blk.ne_ h1 (by decide)
  have hk : ∀ k, k ≠ r → ((((w.setCell ⟨r, i * 4, none⟩ (.bool e.on)).setCell ⟨r, i * 4 + 1, none⟩ (.int .i64 e.st)).setCell ⟨r, i * 4 + 2, none⟩ (.int .i64 e.ix)).setCell ⟨r, i * 4 + 3, none⟩ (.int .i64 e.sz)).heap[k]? = w.heap[k]? := fun k hk =>
    (((Below.heap_setCell _ ⟨r, i * 4 + 3, none⟩ _ k hk).trans (Below.heap_setCell _ ⟨r, i * 4 + 2, none⟩ _ k hk)).trans (Below.heap_setCell _ ⟨r, i * 4 + 1, none⟩ _ k hk)).trans (Below.heap_setCell _ ⟨r, i * 4, none⟩ _ k hk)
  refine ⟨?_, h.slots.set4 i e hi, h.dev.keep (fun k hs _ => hk k fun e => h.nr (e ▸ hs)), h.sub, h.ng, h.nr, h.sg, h.sr, by rw [List.length_set]; exact h.cap, by rw [List.length_set]; exact h.len, by rw [List.length_set]; exact h.dl, h.dm, h.d64⟩
  rw [List.length_set]
  exact (hk g hgr).trans h.blk
set_option maxRecDepth 100000 in
set_option maxHeartbeats 3200000 in
theorem fPut_ok (h : FrgAt S Sd w g d r c L D 0) (hS : ∀ k, S k → k < w.heap.size) (st ix i : Nat) (body : ByteArray) (hst : st < 2147483648) (hix : ix < 8) (hb : body.size ≤ 512) (hi : idxI pFree L = i) (hil : i < L.length) (hno : idxI (pAt st ix) L = -1) :
    Calls Tryz.prog 181 #[.pointer (some ⟨g, 0, none⟩), .agg #[.int .i64 st, .int .i64 ix], .string body, .int .i64 (-1)] w fun e w' => e = .returned (.int .i64 0) ∧ FrgAt S Sd w' g d r c (L.set i ⟨true, st, ix, body.size⟩) (wrD (wrD D (9 * i + 1) (padS body 512) 8) (9 * i) (headS st ix body) 1) 0 ∧ Only S w w' := by
  obtain ⟨W, hW⟩ : ∃ W, W = w.alloc (.cells #[.int .i64 st, .int .i64 ix] 122) := ⟨_, rfl⟩
  have hb0 : Below w.heap.size w W := by rw [hW]; exact (Below.refl _ _).alloc (Nat.le_refl _) _
  have hB0 : Blk W w.heap.size 122 #[.int .i64 st, .int .i64 ix] := by rw [hW]; exact Blk.new w 122 _
  have y0 : W.cell? ⟨w.heap.size, 0, none⟩ = some (.int .i64 st) := (hB0.cell 0).trans rfl
  have y1 : W.cell? ⟨w.heap.size, 1, none⟩ = some (.int .i64 ix) := (hB0.cell 1).trans rfl
  have h0 := h.below hb0
  have H := hid (And.intro h0 (And.intro hb0 (And.intro hB0 hS)))
  have K := hid (And.intro hi (And.intro hil (And.intro hno (And.intro hst (And.intro hix hb)))))
  have hm := hid (may_ok st ix W (by omega) (by omega) (by omega) (by omega))
  have d1 : decide ((512 : Int) < (body.size : Int)) = false := by simp; omega
  clear h h0 hb0 hB0 hS hi hil hno hst hix hb
  go_enter Tryz.func181, Tryz.ntmps181
  go_upto_region 1 with (fail)
  rw [← hW]
  clear hW
  go_wp2_with fail
  refine hm.out.mono ?_
  rintro e0 w1 ⟨rfl, hb1⟩
  have h1 := H.out.1.below hb1
  have hc := free_ok h1
  rw [K.out.1] at hc
  have HC := hid hc
  have H1 := hid (And.intro h1 hb1)
  have di : decide ((i : Int) < 0) = false := by simp
  clear h1 hb1 hc hm
  go_wp2_with fail
  refine HC.out.mono ?_
  rintro e0 w2 ⟨rfl, hb2⟩
  have h2 := H1.out.1.below hb2
  have hbW2 := H1.out.2.trans (hb2.mono H1.out.2.size)
  have x0 : w2.cell? ⟨w.heap.size, 0, none⟩ = some (.int .i64 st) := (hbW2.cell (World.block_lt_of_cell? W _ y0)).trans y0
  have x1 : w2.cell? ⟨w.heap.size, 1, none⟩ = some (.int .i64 ix) := (hbW2.cell (World.block_lt_of_cell? W _ y1)).trans y1
  have hc := find_ok h2 st ix
  rw [K.out.2.2.1] at hc
  have HC2 := hid hc
  have H2 := hid (And.intro h2 hbW2)
  clear h2 hb2 hbW2 hc HC H1
  go_wp2_with fail
  refine HC2.out.mono ?_
  rintro e0 w3 ⟨rfl, hb3⟩
  have h3 := H2.out.1.below hb3
  have hbW3 := H2.out.2.trans (hb3.mono H2.out.2.size)
  have f2 : w3.cell? ⟨g, 2, none⟩ = some (.bool false) := (h3.blk.cell 2).trans rfl
  have hgl := h3.blk.lt
  have hc := free_ok h3
  rw [K.out.1] at hc
  have HC := hid hc
  have H3 := hid (And.intro h3 hbW3)
  clear h3 hb3 hbW3 hc HC2 H2 x0 x1
  go_wp2_with fail
  refine HC.out.mono ?_
  rintro e0 w4 ⟨rfl, hb4⟩
  have h4 := H3.out.1.below hb4
  have hbW4 := H3.out.2.trans (hb4.mono H3.out.2.size)
  have hp := hid (Pad_ok body 512 K.out.2.2.2.2.2 (by omega) w4)
  have H4 := hid (And.intro h4 hbW4)
  clear h4 hb4 hbW4 HC H3 f2 hgl
  go_wp2_with fail
  refine hp.out.mono ?_
  rintro e0 w5 ⟨rfl, hb5⟩
  have h5 := H4.out.1.below hb5
  have hbW5 := H4.out.2.trans (hb5.mono H4.out.2.size)
  have H5 := hid (And.intro h5 hbW5)
  clear h5 hb5 hbW5 H4 hp
  go_upto_region 13 with (fail)
  obtain ⟨s1, hs1⟩ : ∃ s1, s1 = padS body 512 := ⟨_, rfl⟩
  obtain ⟨s2, hs2⟩ : ∃ s2, s2 = headS st ix body := ⟨_, rfl⟩
  rw [← hs1]
  have hz1 : s1.size = 8 * 64 := by rw [hs1, padS_size _ _ K.out.2.2.2.2.2]
  have hz2 : s2.size = 1 * 64 := by rw [hs2, headS_size]
  have hB5 := H.out.2.2.1.below H5.out.2 H.out.2.2.1.lt
  have x0 : w5.cell? ⟨w.heap.size, 0, none⟩ = some (.int .i64 st) := (hB5.cell 0).trans rfl
  have x1c : w5.cell? ⟨w.heap.size, 1, none⟩ = some (.int .i64 ix) := (hB5.cell 1).trans rfl
  have hkeep : ∀ w', Below w5.heap.size w5 w' → w'.cell? ⟨w.heap.size, 0, none⟩ = some (.int .i64 st) ∧ w'.cell? ⟨w.heap.size, 1, none⟩ = some (.int .i64 ix) := fun w' hb => ⟨(hb.cell (World.block_lt_of_cell? w5 _ x0)).trans x0, (hb.cell (World.block_lt_of_cell? w5 _ x1c)).trans x1c⟩
  have hD0 : Hid (Below w5.heap.size w5 w5.drew) := (Below.refl _ _).drew
  have hcW1 : Hid (∀ W2, Below w5.heap.size w5 W2 → Calls Tryz.prog 241 #[.pointer (some ⟨g, 0, none⟩), .int .i64 ((i : Int) * 9 + 1), .string s1] W2 fun e0 w' => ∃ p0 p1 p2, e0 = .returned (.func (.func 303) #[] #[.pointer (some ⟨p0, 0, none⟩), .pointer (some ⟨p1, 0, none⟩), .pointer (some ⟨p2, 0, none⟩)]) ∧ (w'.cell? ⟨w.heap.size, 0, none⟩ = some (.int .i64 st) ∧ w'.cell? ⟨w.heap.size, 1, none⟩ = some (.int .i64 ix)) ∧ Hid (Below w5.heap.size w5 w' ∧ Below W2.heap.size W2 w' ∧ Boxes w' w5.heap.size g (9 * i + 1) s1 p0 p1 p2)) := by
    show ∀ W2, _
    intro W2 hb2
    have hw := write_any g (9 * i + 1) s1 W2
    rw [show ((9 * i + 1 : Nat) : Int) = (i : Int) * 9 + 1 by omega] at hw
    refine hw.mono ?_
    rintro e0 w' ⟨p0, p1, p2, he, hx, hb3⟩
    have hb4 := hb2.trans (hb3.mono hb2.size)
    obtain ⟨⟨q0, k0⟩, ⟨q1, k1⟩, q2, k2⟩ := hx
    exact ⟨p0, p1, p2, he, hkeep w' hb4, hb4, hb3, ⟨q0, Nat.le_trans hb2.size k0⟩, ⟨q1, Nat.le_trans hb2.size k1⟩, q2, Nat.le_trans hb2.size k2⟩
  have hcW2 : Hid (∀ W2, Below w5.heap.size w5 W2 → Calls Tryz.prog 241 #[.pointer (some ⟨g, 0, none⟩), .int .i64 ((i : Int) * 9), .string s2] W2 fun e0 w' => ∃ p0 p1 p2, e0 = .returned (.func (.func 303) #[] #[.pointer (some ⟨p0, 0, none⟩), .pointer (some ⟨p1, 0, none⟩), .pointer (some ⟨p2, 0, none⟩)]) ∧ (w'.cell? ⟨w.heap.size, 0, none⟩ = some (.int .i64 st) ∧ w'.cell? ⟨w.heap.size, 1, none⟩ = some (.int .i64 ix)) ∧ Hid (Below w5.heap.size w5 w' ∧ Below W2.heap.size W2 w' ∧ Boxes w' w5.heap.size g (9 * i) s2 p0 p1 p2)) := by
    show ∀ W2, _
    intro W2 hb2
    have hw := write_any g (9 * i) s2 W2
    rw [show ((9 * i : Nat) : Int) = (i : Int) * 9 by omega] at hw
    refine hw.mono ?_
    rintro e0 w' ⟨p0, p1, p2, he, hx, hb3⟩
    have hb4 := hb2.trans (hb3.mono hb2.size)
    obtain ⟨⟨q0, k0⟩, ⟨q1, k1⟩, q2, k2⟩ := hx
    exact ⟨p0, p1, p2, he, hkeep w' hb4, hb4, hb3, ⟨q0, Nat.le_trans hb2.size k0⟩, ⟨q1, Nat.le_trans hb2.size k1⟩, q2, Nat.le_trans hb2.size k2⟩
  have hcH : Hid (∀ W2, Below w5.heap.size w5 W2 → Calls Tryz.prog 235 #[.agg #[.int .i64 st, .int .i64 ix], .string body] W2 fun e0 w' => e0 = .returned (.string s2) ∧ (w'.cell? ⟨w.heap.size, 0, none⟩ = some (.int .i64 st) ∧ w'.cell? ⟨w.heap.size, 1, none⟩ = some (.int .i64 ix)) ∧ Hid (Below w5.heap.size w5 w' ∧ Below W2.heap.size W2 w')) := by
    show ∀ W2, _
    intro W2 hb2
    refine (head_ok st ix body K.out.2.2.2.1 (by have := K.out.2.2.2.2.1; omega) K.out.2.2.2.2.2 W2).mono ?_
    rintro e0 w' ⟨he, hb3⟩
    have hb4 := hb2.trans (hb3.mono hb2.size)
    rw [hs2]
    exact ⟨he, hkeep w' hb4, hb4, hb3⟩
  have hcS : Hid (∀ (mm : Int), mm = -1 → ∀ (V : World) (p0 p1 p2 p3 p4 p5 : Nat), Below w5.heap.size w5 V → Boxes V w5.heap.size g (9 * i + 1) s1 p0 p1 p2 → Boxes V w5.heap.size g (9 * i) s2 p3 p4 p5 → Calls Tryz.prog 240 #[.pointer (some ⟨g, 0, none⟩), .int .i64 mm, .slice (some ⟨V.heap.size, 0, none⟩) 4 4] (V.alloc (.cells #[.func (.func 303) #[] #[.pointer (some ⟨p0, 0, none⟩), .pointer (some ⟨p1, 0, none⟩), .pointer (some ⟨p2, 0, none⟩)], .func (.func 242) #[.pointer (some ⟨g, 0, none⟩)] #[], .func (.func 303) #[] #[.pointer (some ⟨p3, 0, none⟩), .pointer (some ⟨p4, 0, none⟩), .pointer (some ⟨p5, 0, none⟩)], .func (.func 242) #[.pointer (some ⟨g, 0, none⟩)] #[]] 57)) fun e0 w' => e0 = .returned (.int .i64 0) ∧ (w'.cell? ⟨w.heap.size, 0, none⟩ = some (.int .i64 st) ∧ w'.cell? ⟨w.heap.size, 1, none⟩ = some (.int .i64 ix)) ∧ Hid (FrgAt S Sd w' g d r c L (wrD (wrD D (9 * i + 1) s1 8) (9 * i) s2 1) 0 ∧ Only S w w')) := by
    show ∀ mm, _
    intro mm hmm V p0 p1 p2 p3 p4 p5 hbV hx hy
    obtain ⟨W3, hW3⟩ : ∃ W3, W3 = V.alloc (.cells #[.func (.func 303) #[] #[.pointer (some ⟨p0, 0, none⟩), .pointer (some ⟨p1, 0, none⟩), .pointer (some ⟨p2, 0, none⟩)], .func (.func 242) #[.pointer (some ⟨g, 0, none⟩)] #[], .func (.func 303) #[] #[.pointer (some ⟨p3, 0, none⟩), .pointer (some ⟨p4, 0, none⟩), .pointer (some ⟨p5, 0, none⟩)], .func (.func 242) #[.pointer (some ⟨g, 0, none⟩)] #[]] 57) := ⟨_, rfl⟩
    rw [← hW3, hmm]
    have hq : Blk W3 V.heap.size 57 #[.func (.func 303) #[] #[.pointer (some ⟨p0, 0, none⟩), .pointer (some ⟨p1, 0, none⟩), .pointer (some ⟨p2, 0, none⟩)], .func (.func 242) #[.pointer (some ⟨g, 0, none⟩)] #[], .func (.func 303) #[] #[.pointer (some ⟨p3, 0, none⟩), .pointer (some ⟨p4, 0, none⟩), .pointer (some ⟨p5, 0, none⟩)], .func (.func 242) #[.pointer (some ⟨g, 0, none⟩)] #[]] := by rw [hW3]; exact Blk.new V 57 _
    have hb3 : Below V.heap.size V W3 := by rw [hW3]; exact (Below.refl _ _).alloc (Nat.le_refl _) _
    have hb4 := hbV.trans (hb3.mono hbV.size)
    have h3 := H5.out.1.below hb4
    have hns : ∀ k, w5.heap.size ≤ k → ¬ S k := fun k hk hs => by
      have := H.out.2.2.2 k hs
      have := H.out.2.1.size
      have := H5.out.2.size
      omega
    have hx3 := hx.below hb3
    have hy3 := hy.below hb3
    have hil := K.out.2.1
    have hdl := h3.dl
    refine (steps_ok h3 (9 * i + 1) (9 * i) s1 s2 hq (hns _ hbV.size) ⟨hx3.1.1, hns _ hx3.1.2⟩ ⟨hx3.2.1.1, hns _ hx3.2.1.2⟩ ⟨hx3.2.2.1, hns _ hx3.2.2.2⟩ ⟨hy3.1.1, hns _ hy3.1.2⟩ ⟨hy3.2.1.1, hns _ hy3.2.1.2⟩ ⟨hy3.2.2.1, hns _ hy3.2.2.2⟩ hz1 hz2 (by omega) (by omega)).mono ?_
    rintro e0 w' ⟨he, hf, ho⟩
    have hyy := hkeep W3 hb4
    have hnw : ¬ S w.heap.size := fun hs => by have := H.out.2.2.2 _ hs; omega
    have hbw : Below w.heap.size w W3 := (H.out.2.1.trans (H5.out.2.mono H.out.2.1.size)).trans (hb4.mono (Nat.le_trans H.out.2.1.size H5.out.2.size))
    exact ⟨he, ⟨ho.cell hyy.1 hnw, ho.cell hyy.2 hnw⟩, hf, (Only.of_below hbw fun _ hk _ => hk).trans ho⟩
  have i1 : (i : Int) ≤ 1000 := by have := K.out.2.1; have := H5.out.1.len; omega
  have i0 : (0 : Int) ≤ (i : Int) := by omega
  have wr1 : IntKind.i64.wrap ((i : Int) * 9) = (i : Int) * 9 := by rw [IntKind.wrap_i64]; omega
  have wr2 : IntKind.i64.wrap ((i : Int) * 9 + 1) = (i : Int) * 9 + 1 := by rw [IntKind.wrap_i64]; omega
  clear hB5 hkeep
  have HS2 := hid hs2
  have HS1 := hid hs1
  clear hs1 hs2 hz1 hz2
  go_cut [12] (fun s12 w' => s12 = .int .i64 0 ∧ (w'.cell? ⟨w.heap.size, 0, none⟩ = some (.int .i64 st) ∧ w'.cell? ⟨w.heap.size, 1, none⟩ = some (.int .i64 ix)) ∧ Hid (FrgAt S Sd w' g d r c L (wrD (wrD D (9 * i + 1) s1 8) (9 * i) s2 1) 0 ∧ Only S w w'))
  case first =>
    go_region_held3 (fun w' => w'.cell? ⟨w.heap.size, 0, none⟩ = some (.int .i64 st) ∧ w'.cell? ⟨w.heap.size, 1, none⟩ = some (.int .i64 ix)) (first | (with_reducible exact hS) | (with_reducible exact ⟨x0, x1c⟩) | go_keep) ((first
      | (go_at_call 241; first
        | (with_reducible refine (hcW1.out _ hD0.out).mono ?_; rintro e0 v1 ⟨p0, p1, p2, rfl, hS, x1⟩) | (with_reducible refine (hcW1.out _ x3.out.1).mono ?_; rintro e0 v1 ⟨p0, p1, p2, rfl, hS, x1⟩) | (with_reducible refine (hcW1.out _ x2.out.1).mono ?_; rintro e0 v1 ⟨p0, p1, p2, rfl, hS, x1⟩)
        | (with_reducible refine (hcW2.out _ hD0.out).mono ?_; rintro e0 v3 ⟨p3, p4, p5, rfl, hS, x3⟩) | (with_reducible refine (hcW2.out _ x1.out.1).mono ?_; rintro e0 v3 ⟨p3, p4, p5, rfl, hS, x3⟩) | (with_reducible refine (hcW2.out _ x2.out.1).mono ?_; rintro e0 v3 ⟨p3, p4, p5, rfl, hS, x3⟩) | (fail))
      | (go_at_call 235; first | (with_reducible refine (hcH.out _ hD0.out).mono ?_; rintro e0 v2 ⟨rfl, hS, x2⟩) | (with_reducible refine (hcH.out _ x1.out.1).mono ?_; rintro e0 v2 ⟨rfl, hS, x2⟩) | (fail))
      | (go_at_call 240; first
        | (with_reducible refine (hcS.out _ (by rfl) v3 p0 p1 p2 p3 p4 p5 x3.out.1 ((x1.out.2.2.below x2.out.2).below x3.out.2.1) x3.out.2.2).mono ?_; rintro e0 v4 ⟨rfl, hS, x4⟩)
        | (with_reducible refine (hcS.out _ (by rfl) v3 p0 p1 p2 p3 p4 p5 x3.out.1 (x1.out.2.2.below x3.out.2.1) x3.out.2.2).mono ?_; rintro e0 v4 ⟨rfl, hS, x4⟩)
        | (with_reducible refine (hcS.out _ (by rfl) v1 p0 p1 p2 p3 p4 p5 x1.out.1 x1.out.2.2 (x3.out.2.2.below x1.out.2.1)).mono ?_; rintro e0 v4 ⟨rfl, hS, x4⟩) | (fail))))
    all_goals
      go_wp2_with fail
      go_meet
      exact ⟨rfl, hS, x4⟩
  case rest =>
    obtain ⟨rfl, hy, HX⟩ := hcut
    have h6 := HX.out.1
    have hgl := h6.blk.lt
    have f1 : wc.cell? ⟨g, 1, none⟩ = some (.slice (some ⟨r, 0, none⟩) L.length c) := (h6.blk.cell 1).trans rfl
    obtain ⟨e9, he9⟩ : ∃ e9, L[i]? = some e9 := ⟨_, List.getElem?_eq_getElem K.out.2.1⟩
    obtain ⟨z0, z1, z2, z3⟩ := h6.slots.four he9
    have hfz : ∀ k, wc.frozen? ⟨r, k, none⟩ = false := by
      obtain ⟨cs, hh, _⟩ := h6.slots
      exact hh.frozen
    have u0 := hfz (i * 4)
    have u1 := hfz (i * 4 + 1)
    have u2 := hfz (i * 4 + 2)
    have u3 := hfz (i * 4 + 3)
    have hil2 : (i : Int) < (L.length : Int) := by have := K.out.2.1; omega
    obtain ⟨y0', y1'⟩ := hy
    clear hcW1 hcW2 hcH hcS hD0 x0 x1c y0 y1 hfz he9 h6
    go_upto_region 15 with (fail)
    go_still_tail 10, (by kernel_rfl)
    change wpList _ _ _ _ _ (wc.drewN 1)
    go_wp2_with fail
    go_ret
    have hfin := (HX.out.1.below (below_drewN (Below.refl _ _) 1)).set4 i ⟨true, st, ix, body.size⟩ K.out.2.1
    have hon := setS (S := S) HX.out.1.sr (i * 4 + 3) (.int .i64 (body.size : Int)) (setS (S := S) HX.out.1.sr (i * 4 + 2) (.int .i64 (ix : Int)) (setS (S := S) HX.out.1.sr (i * 4 + 1) (.int .i64 (st : Int)) (setS (S := S) HX.out.1.sr (i * 4) (.bool true) (HX.out.2.drewN 1))))
    rw [HS1.out, HS2.out] at hfin
    exact ⟨rfl, hfin, hon⟩
end
end Go.Proofs.YtopbojifllnckaaGreatDoor
namespace Go.Proofs.YtopbojifllnckaaGreatDoor
open Go.RowKit
attribute [local irreducible] wpQuiet
/-- Server i of the servers in block sg stands in block v: its device, its store, is it down, is it lost. -/
def SrvAt (w : World) (sg i v d g : Nat) (down lost : Bool) : Prop := ∃ (r n c : Nat) (cs : Array Value), i < n ∧ n ≤ 64 ∧ Blk w sg 198 #[.slice (some ⟨r, 0, none⟩) n c] ∧ Blk w r 101 cs ∧ cs[i]? = some (.pointer (some ⟨v, 0, none⟩)) ∧ Blk w v 106 #[.pointer (some ⟨d, 0, none⟩), .pointer (some ⟨g, 0, none⟩), .bool down, .bool lost]
section
variable {w w' : World} {sg i v d g : Nat} {down lost : Bool}
theorem SrvAt.below (h : SrvAt w sg i v d g down lost) (hb : Below w.heap.size w w') : SrvAt w' sg i v d g down lost := by
  obtain ⟨r, n, c, cs, h1, h2, h3, h4, h5, h6⟩ := h
  exact ⟨r, n, c, cs, h1, h2, h3.below hb h3.lt, h4.below hb h4.lt, h5, h6.below hb h6.lt⟩
set_option maxRecDepth 100000 in
theorem at_ok (h : SrvAt w sg i v d g down lost) : Calls Tryz.prog 47 #[.pointer (some ⟨sg, 0, none⟩), .int .i64 i] w fun e w' => e = .returned (.pointer (some ⟨v, 0, none⟩)) ∧ w = w' := by
  obtain ⟨r, n, c, cs, h1, h2, h3, h4, h5, h6⟩ := h
  have e0 : w.cell? ⟨sg, 0, none⟩ = some (.slice (some ⟨r, 0, none⟩) n c) := (h3.cell 0).trans rfl
  have e1 : w.cell? ⟨r, i, none⟩ = some (.pointer (some ⟨v, 0, none⟩)) := (h4.cell i).trans h5
  have d0 : decide ((i : Int) < 0) = false := by simp
  have d1 : decide ((n : Int) ≤ (i : Int)) = false := by simp; omega
  have q1 : ¬ n ≤ i := by omega
  have q2 : (i : Int) < (n : Int) := by omega
  have q3 : (0 : Int) ≤ (i : Int) := by omega
  clear h1 h2 h3 h4 h5 h6
  go_enter Tryz.func47, Tryz.ntmps47
  go_wp2_with fail
  go_ret
  exact ⟨rfl, rfl⟩
set_option maxRecDepth 100000 in
theorem store_ok (h : SrvAt w sg i v d g false false) : Calls Tryz.prog 180 #[.pointer (some ⟨sg, 0, none⟩), .int .i64 i] w fun e w' => e = .returned (.pointer (some ⟨g, 0, none⟩)) ∧ w = w' := by
  have hc := hid (at_ok h)
  obtain ⟨r, n, c, cs, h1, h2, h3, h4, h5, h6⟩ := h
  have e1 : w.cell? ⟨v, 1, none⟩ = some (.pointer (some ⟨g, 0, none⟩)) := (h6.cell 1).trans rfl
  have e2 : w.cell? ⟨v, 2, none⟩ = some (.bool false) := (h6.cell 2).trans rfl
  have e3 : w.cell? ⟨v, 3, none⟩ = some (.bool false) := (h6.cell 3).trans rfl
  have hvl := h6.lt
  clear h1 h2 h3 h4 h5 h6
  go_enter Tryz.func180, Tryz.ntmps180
  go_wp2_with fail
  refine hc.out.mono ?_
  rintro e w' ⟨rfl, rfl⟩
  clear hc
  go_wp2_with fail
  go_ret
  exact ⟨rfl, rfl⟩
def downE : Ending := .panicked [{ v := .iface 31 (.int .i64 8), recovered := false }]
set_option maxRecDepth 100000 in
theorem store_down (h : SrvAt w sg i v d g down lost) (hdl : (down || lost) = true) : Calls Tryz.prog 180 #[.pointer (some ⟨sg, 0, none⟩), .int .i64 i] w fun e w' => e = downE ∧ w = w' := by
  have hc := hid (at_ok h)
  obtain ⟨r, n, c, cs, h1, h2, h3, h4, h5, h6⟩ := h
  have e2 : w.cell? ⟨v, 2, none⟩ = some (.bool down) := (h6.cell 2).trans rfl
  have e3 : w.cell? ⟨v, 3, none⟩ = some (.bool lost) := (h6.cell 3).trans rfl
  have hvl := h6.lt
  clear h1 h2 h3 h4 h5 h6
  cases down with
  | true =>
    go_enter Tryz.func180, Tryz.ntmps180
    go_wp2_with fail
    refine hc.out.mono ?_
    rintro e w' ⟨rfl, rfl⟩
    clear hc
    go_wp2_with fail
    exact ⟨rfl, rfl, rfl⟩
  | false =>
    cases lost with
    | false => cases hdl
    | true =>
      go_enter Tryz.func180, Tryz.ntmps180
      go_wp2_with fail
      refine hc.out.mono ?_
      rintro e w' ⟨rfl, rfl⟩
      clear hc
      go_wp2_with fail
      exact ⟨rfl, rfl, rfl⟩
end
end Go.Proofs.YtopbojifllnckaaGreatDoor
namespace Go.Proofs.YtopbojifllnckaaGreatDoor
open Go.RowKit
attribute [local irreducible] wpQuiet
theorem run_ta (w : World) : (Instr.typeAssert (.iface 31 (.int .i64 8)) 20 31 true).run Tryz.prog w = .ok (.tuple #[.int .i64 8, .bool true]) w := by kernel_rfl
set_option maxRecDepth 100000 in
theorem caught_ok (w : World) : Calls Tryz.prog 179 #[.iface 31 (.int .i64 8)] w fun e w' => e = .returned (.int .i64 8) ∧ w = w' := by
  go_enter Tryz.func179, Tryz.ntmps179
  go_wp2_with (rw [run_ta])
  go_ret
  exact ⟨rfl, rfl⟩
set_option maxRecDepth 100000 in
theorem raised178 (p : Addr) (x : Int) (w : World) (hc : w.cell? p = some (.int .i64 x)) (hz : w.frozen? p = false) (older : List PanicEntry) :
    CallsD Tryz.prog 178 #[.pointer (some p)] (.panicking ({ v := .iface 31 (.int .i64 8), recovered := false } :: older)) w fun e u' w' => (∃ v, e = .returned v) ∧ u' = .panicking ({ v := .iface 31 (.int .i64 8), recovered := true } :: older) ∧ w' = w.setCell p (.int .i64 8) := by
  refine callsD_of_wpS Tryz.func178 rfl fun c₀ cs hu => ?_
  apply wpS_seq
  apply wpS_region
  simp [wpOpsS, go_sem, recoverD, hu, Tryz.ntmps178, Exit.thenS]
  apply wpS_seq
  apply wpS_region
  simp [wpOpsS, go_sem, Exit.thenS]
  refine wpS_cond (t := true) (by simp [Act.eval, Array.replicate]) ?_
  simp only [if_true]
  refine wpS_of_wp ?_
  go_wp2_with fail
  refine (caught_ok w).mono ?_
  rintro e w' ⟨rfl, rfl⟩
  go_wp2_with fail
  cases c₀
  simp_all [bodyPostS, results, Tryz.results178]
set_option maxRecDepth 100000 in
theorem raised243 (p q : Addr) (s : ByteArray) (x : Int) (w : World) (hc : w.cell? p = some (.string s)) (hz : w.frozen? p = false) (hd : w.cell? q = some (.int .i64 x)) (hf : w.frozen? q = false) (hpq : p.block ≠ q.block) (older : List PanicEntry) :
    CallsD Tryz.prog 243 #[.pointer (some p), .pointer (some q)] (.panicking ({ v := .iface 31 (.int .i64 8), recovered := false } :: older)) w fun e u' w' => (∃ v, e = .returned v) ∧ u' = .panicking ({ v := .iface 31 (.int .i64 8), recovered := true } :: older) ∧ w' = (w.setCell p (.string ⟨#[]⟩)).setCell q (.int .i64 8) := by
  have hd2 : (w.setCell p (.string ⟨#[]⟩)).cell? q = some (.int .i64 x) := (World.cell?_of_block (Below.heap_setCell w p _ q.block hpq.symm)).trans hd
  refine callsD_of_wpS Tryz.func243 rfl fun c₀ cs hu => ?_
  apply wpS_seq
  apply wpS_region
  simp [wpOpsS, go_sem, recoverD, hu, Tryz.ntmps243, Exit.thenS]
  apply wpS_seq
  apply wpS_region
  simp [wpOpsS, go_sem, Exit.thenS]
  refine wpS_cond (t := true) (by simp [Act.eval, Array.replicate]) ?_
  simp only [if_true]
  refine wpS_of_wp ?_
  go_wp2_with fail
  refine (caught_ok w).mono ?_
  rintro e w' ⟨rfl, rfl⟩
  go_wp2_with fail
  cases c₀
  simp_all [bodyPostS, results, Tryz.results243]
end Go.Proofs.YtopbojifllnckaaGreatDoor
namespace Go.Proofs.YtopbojifllnckaaGreatDoor
open Go.RowKit
attribute [local irreducible] wpQuiet
theorem cell1 {w' : World} {z : Nat} {p : Addr} {v : Value} (hne : p.block ≠ z) (x : Value) (h : w'.cell? p = some v) : (w'.setCell ⟨z, 0, none⟩ x).cell? p = some v := (World.cell?_of_block (Below.heap_setCell _ ⟨z, 0, none⟩ x p.block hne)).trans h
section
variable {w w' : World} {sg i v d g : Nat} {down lost : Bool}
set_option maxRecDepth 100000 in
set_option maxHeartbeats 1600000 in
theorem sPut_up {S Sd : Nat → Prop} {r c : Nat} {L : List Ent} {D : List ByteArray} (h : SrvAt w sg i v d g false false) (hf : FrgAt S Sd w g d r c L D 0) (hS : ∀ k, S k → k < w.heap.size) (st ix j : Nat) (body : ByteArray) (hst : st < 2147483648) (hix : ix < 8) (hb : body.size ≤ 512) (hi : idxI pFree L = j) (hil : j < L.length) (hno : idxI (pAt st ix) L = -1) :
    Calls Tryz.prog 113 #[.pointer (some ⟨sg, 0, none⟩), .int .i64 i, .agg #[.int .i64 st, .int .i64 ix], .string body] w fun e w' => e = .returned (.int .i64 0) ∧ FrgAt S Sd w' g d r c (L.set j ⟨true, st, ix, body.size⟩) (wrD (wrD D (9 * j + 1) (padS body 512) 8) (9 * j) (headS st ix body) 1) 0 ∧ Only S w w' := by
  have hmf : ∀ (fn : Fn) (first cap : Array Value) (w : World), (Instr.makeFunc fn first cap).run Tryz.prog w = .ok (.func fn first cap) w := fun _ _ _ _ => rfl
  obtain ⟨W, hW⟩ : ∃ W, W = (w.alloc (.cells #[.int .i64 st, .int .i64 ix] 122)).alloc (.cells #[.int .i64 0] 31) := ⟨_, rfl⟩
  have hsz : (w.alloc (.cells #[.int .i64 st, .int .i64 ix] 122)).heap.size = w.heap.size + 1 := by simp
  have hbb : Below w.heap.size w W := by rw [hW]; exact ((Below.refl _ _).alloc (Nat.le_refl _) _).alloc (by omega) _
  have hB0 : Blk W w.heap.size 122 #[.int .i64 st, .int .i64 ix] := by rw [hW]; exact (Blk.new w 122 _).alloc _
  have hB1 : Blk W (w.heap.size + 1) 31 #[.int .i64 0] := by rw [hW, ← hsz]; exact Blk.new _ 31 _
  have x0 : W.cell? ⟨w.heap.size, 0, none⟩ = some (.int .i64 st) := (hB0.cell 0).trans rfl
  have x1 : W.cell? ⟨w.heap.size, 1, none⟩ = some (.int .i64 ix) := (hB0.cell 1).trans rfl
  obtain ⟨z, hz⟩ : ∃ z, z = w.heap.size + 1 := ⟨_, rfl⟩
  rw [← hz] at hB1
  have hne : w.heap.size ≠ z := by omega
  have hne2 : z ≠ w.heap.size := by omega
  have hzS : ¬ S z := fun hs => by have := hS _ hs; omega
  have hwS : ¬ S w.heap.size := fun hs => by have := hS _ hs; omega
  obtain ⟨L2, hL2⟩ : ∃ L2, L2 = L.set j ⟨true, st, ix, body.size⟩ := ⟨_, rfl⟩
  obtain ⟨D2, hD2⟩ : ∃ D2, D2 = wrD (wrD D (9 * j + 1) (padS body 512) 8) (9 * j) (headS st ix body) 1 := ⟨_, rfl⟩
  rw [← hL2, ← hD2]
  have hcall : Hid (∀ W2, Below W.heap.size W W2 → Calls Tryz.prog 180 #[.pointer (some ⟨sg, 0, none⟩), .int .i64 i] W2 fun e w' => e = .returned (.pointer (some ⟨g, 0, none⟩)) ∧ W2 = w') := fun W2 hb2 => store_ok ((h.below hbb).below hb2)
  have hput : Hid (∀ W2 (mm : Int), mm = -1 → Below W.heap.size W W2 → Calls Tryz.prog 181 #[.pointer (some ⟨g, 0, none⟩), .agg #[.int .i64 st, .int .i64 ix], .string body, .int .i64 mm] W2 fun e w' => e = .returned (.int .i64 0) ∧ (w'.cell? ⟨w.heap.size, 0, none⟩ = some (.int .i64 st) ∧ w'.cell? ⟨w.heap.size, 1, none⟩ = some (.int .i64 ix)) ∧ w'.cell? ⟨z, 0, none⟩ = some (.int .i64 0) ∧ w'.frozen? ⟨z, 0, none⟩ = false ∧ z < w'.heap.size ∧ Hid (FrgAt S Sd w' g d r c L2 D2 0 ∧ Only S w w')) := by
    show ∀ W2, _
    intro W2 mm hmm hb2
    have hb3 := hbb.trans (hb2.mono hbb.size)
    rw [hmm]
    refine (fPut_ok (hf.below hb3) (fun k hs => Nat.lt_of_lt_of_le (hS k hs) hb3.size) st ix j body hst hix hb hi hil hno).mono ?_
    rintro e w' ⟨he, q1, q2⟩
    rw [← hL2, ← hD2] at q1
    have k0 := (hB0.below hb2 hB0.lt).only q2 hwS
    have k1 := (hB1.below hb2 hB1.lt).only q2 hzS
    exact ⟨he, ⟨(k0.cell 0).trans rfl, (k0.cell 1).trans rfl⟩, (k1.cell 0).trans rfl, k1.frozen 0, k1.lt, q1, (Only.of_below hb3 fun _ hk _ => hk).trans q2⟩
  have hD0 : Hid (Below W.heap.size W W.drew) := (Below.refl _ _).drew
  have HZ := hid (And.intro hzS (show w.heap.size ≤ z by omega))
  have HE := hid hz
  clear hbb hB0 hB1 h hf hS hst hix hb hi hil hno hL2 hD2 hsz hzS hwS hz
  go_enter_defers Tryz.func113, Tryz.ntmps113
  go_upto_region 2 with (fail)
  rw [← hW, ← HE.out]
  clear hW HE
  go_region_held3 (fun w' => w'.cell? ⟨w.heap.size, 0, none⟩ = some (.int .i64 st) ∧ w'.cell? ⟨w.heap.size, 1, none⟩ = some (.int .i64 ix)) (first | (with_reducible exact hS) | (with_reducible exact ⟨cell1 hne _ hS.1, cell1 hne _ hS.2⟩) | (with_reducible exact ⟨x0, x1⟩) | go_keep) ((first
    | (go_at_call 180; with_reducible refine (hcall.out _ hD0.out).mono ?_; rintro e0 w' ⟨rfl, rfl⟩)
    | (go_at_call 181; with_reducible refine (hput.out _ _ (by rfl) hD0.out).mono ?_; rintro e0 w2 ⟨rfl, hS, z0, u0, hzl, hX⟩)))
  have hfin : Hid (FrgAt S Sd (w2.setCell ⟨z, 0, none⟩ (.int .i64 0)) g d r c L2 D2 0 ∧ Only S w (w2.setCell ⟨z, 0, none⟩ (.int .i64 0))) := ⟨hX.out.1.keep fun k hs _ => Below.heap_setCell w2 ⟨z, 0, none⟩ _ k (fun e => HZ.out.1 (by have e' : k = z := e; rw [← e']; exact hs)), hX.out.2.setCell (p := ⟨z, 0, none⟩) (.inr HZ.out.2) _⟩
  clear hX
  go_wp2_with fail
  refine leaves_cons (f := 178) (args := #[.pointer (some ⟨z, 0, none⟩)]) (by simp) (by simp [go_sem]) ?_
  refine (catch178 _ _).mono ?_
  rintro e u' w'' ⟨⟨v9, rfl⟩, rfl, rfl⟩
  simp [Leaves, settle, results, Tryz.results113, go_sem, z0]
  exact hfin.out
end
end Go.Proofs.YtopbojifllnckaaGreatDoor
