/- smap, stripes of four servers: On, List. smap, stripes of four servers: Move. A store's sectors: what is written, and what stays. A store and what it has. servers: which are down, which are lost. -/
import Derived.Test.YtopbojifllnckaaGreatDoorG31
import Derived.Test.YtopbojifllnckaaGreatDoorG27
import Derived.Test.YtopbojifllnckaaGreatDoorHEe
namespace Go.Proofs.YtopbojifllnckaaGreatDoor.F
open Go.RowKit
attribute [local irreducible] wpQuiet
/-- The numbers below n. -/
def upto (n : Nat) : List Int := (List.range n).map Int.ofNat
theorem upto_len (n : Nat) : (upto n).length = n := by simp [upto]
theorem upto_succ (n : Nat) : upto (n + 1) = upto n ++ [(n : Int)] := by simp [upto, List.range_succ]
section
variable {S : Nat → Prop} {w : World} {g : Nat} {L : List Str}
set_option maxRecDepth 100000 in
theorem on4 {p : Nat} {x : Int} (hp : w.cell? ⟨p, 0, none⟩ = some (.int .i64 x)) (i st ow ep ln : Int) {q c : Nat} {xs : List Int} (hq : w.ownsRow 0 3 1 (.slice (some ⟨q, 0, none⟩) 4 c) 4 (nums xs)) (hst : st ≠ 3) (hx : x ∈ xs) :
    Calls Tryz.prog 231 #[.agg #[.int .i64 i, .int .i64 st, .int .i64 ow, .int .i64 ep, .int .i64 ln, .slice (some ⟨q, 0, none⟩) 4 c], .pointer (some ⟨p, 0, none⟩)] w fun e w' => e = .returned (.bool true) ∧ Below w.heap.size w w' := by
  have hxl : xs.length = 4 := by have := hq.1; rw [nums_length] at this; omega
  have hh := (own_holdsS (hq.alloc (.cells #[.int .i64 i, .int .i64 st, .int .i64 ow, .int .i64 ep, .int .i64 ln, .slice (some ⟨q, 0, none⟩) 4 c] 37))).1
  have hc1 := has_any (c := c) x (hid (IntsAt.of_holds hh)) hxl (by decide)
  have h0 : decide (0 ≤ atI xs x) = true := by unfold atI; rw [if_pos hx]; simp
  rw [h0] at hc1
  have hc := hid hc1
  have hb := hid ((Below.refl w.heap.size w).alloc (Nat.le_refl _) (.cells #[.int .i64 i, .int .i64 st, .int .i64 ow, .int .i64 ep, .int .i64 ln, .slice (some ⟨q, 0, none⟩) 4 c] 37))
  have hn := cellA hp (.cells #[.int .i64 i, .int .i64 st, .int .i64 ow, .int .i64 ep, .int .i64 ln, .slice (some ⟨q, 0, none⟩) 4 c] 37)
  clear hq hx hh hc1
  have d0 : (st != 3) = true := by simp [hst]
  clear hst
  go_enter Tryz.func231, Tryz.ntmps231
  go_wp2_with fail
  refine hc.out.mono ?_
  rintro e w' ⟨rfl, rfl⟩
  go_wp2_with fail
  go_ret
  exact ⟨rfl, hb.out⟩
set_option maxRecDepth 100000 in
theorem is4 {p : Nat} {x : Int} (hp : w.cell? ⟨p, 0, none⟩ = some (.int .i64 x)) (i st ow ep ln : Int) {q c : Nat} (hst : st = x) :
    Calls Tryz.prog 187 #[.agg #[.int .i64 i, .int .i64 st, .int .i64 ow, .int .i64 ep, .int .i64 ln, .slice (some ⟨q, 0, none⟩) 4 c], .pointer (some ⟨p, 0, none⟩)] w fun e w' => e = .returned (.bool true) ∧ Below w.heap.size w w' := by
  have hb := hid ((Below.refl w.heap.size w).alloc (Nat.le_refl _) (.cells #[.int .i64 i, .int .i64 st, .int .i64 ow, .int .i64 ep, .int .i64 ln, .slice (some ⟨q, 0, none⟩) 4 c] 37))
  have hn := cellA hp (.cells #[.int .i64 i, .int .i64 st, .int .i64 ow, .int .i64 ep, .int .i64 ln, .slice (some ⟨q, 0, none⟩) 4 c] 37)
  subst hst
  go_enter Tryz.func187, Tryz.ntmps187
  go_wp2_with fail
  go_ret
  exact ⟨by simp, hb.out⟩
def WhRel (w wr : World) (k : Nat) (v5 : Value) : Prop := wr.ownsRow w.heap.size 3 1 v5 k (nums (upto k)) ∧ Below w.heap.size w wr
set_option maxRecDepth 100000 in
set_option maxHeartbeats 1600000 in
theorem which_on (h : Smp S w g L) (hL : L.length ≤ 100000) {p : Nat} {x : Int} (hp : w.cell? ⟨p, 0, none⟩ = some (.int .i64 x)) (hall : ∀ s ∈ L, s.st ≠ 3 ∧ x ∈ s.xs) :
    Calls Tryz.prog 186 #[.pointer (some ⟨g, 0, none⟩), .func (.func 231) #[] #[.pointer (some ⟨p, 0, none⟩)]] w fun e w' => ∃ v, e = .returned v ∧ w'.ownsRow w.heap.size 3 1 v L.length (nums (upto L.length)) ∧ Below w.heap.size w w' := by
  obtain ⟨A, c, hb, hrow, hrest⟩ := h
  have e0 : w.cell? ⟨g, 0, none⟩ = some (.slice A L.length c) := (hb.cell 0).trans rfl
  have hlc : L.length ≤ c := (own_holdsS hrow).2.1
  have HROW := hid hrow
  have HALL := hid hall
  have hpl : Hid (p < w.heap.size) := World.block_lt_of_cell? w _ hp
  have HR := hid (And.intro hb hrest)
  clear hb hrow hrest hall
  go_enter Tryz.func186, Tryz.ntmps186
  go_wp2_with fail
  go_loopw [5, 15] (fun v5 v15 wr => ∃ k : Nat, k ≤ L.length ∧ v15 = .int .i64 k ∧ Hid (WhRel w wr k v5)) (fun _ v15 _ => L.length - (intOf v15).toNat)
  case atStart => exact ⟨0, Nat.zero_le _, rfl, World.ownsRow_nil _ _ _ _, Below.refl _ _⟩
  case round =>
    obtain ⟨k, hk, rfl, hI⟩ := hrel
    by_cases hkn : k < L.length
    · obtain ⟨s, hs⟩ : ∃ s, L[k]? = some s := ⟨_, List.getElem?_eq_getElem hkn⟩
      obtain ⟨hJ1, hJ3⟩ := hI.out
      rcases own_blk HROW.out with ⟨_, h0, _⟩ | ⟨r, cur, rfl, _⟩
      · omega
      have hr0 : AtS S w g L r := ⟨⟨c, HR.out.1, HROW.out⟩, HR.out.2.1, HR.out.2.2.1 _ rfl, HR.out.2.2.2.1, HR.out.2.2.2.2⟩
      have hr := hr0.below hJ3
      obtain ⟨a0, a1, a2, a3, a4, a5⟩ := hr.six hs
      have hxs := (hr.srv s (List.mem_of_getElem? hs)).2
      unfold Srv at hxs
      have hsa := HALL.out s (List.mem_of_getElem? hs)
      have hpr : wr.cell? ⟨p, 0, none⟩ = some (.int .i64 x) := (hJ3.cell hpl.out).trans hp
      have hX := Blk.new wr 37 #[.int .i64 (k : Int), .int .i64 s.st, .int .i64 s.ow, .int .i64 s.ep, .int .i64 s.ln, .slice (some ⟨s.g, 0, none⟩) 4 s.c]
      have hc := hid (on4 (cellA hpr (.cells #[.int .i64 (k : Int), .int .i64 s.st, .int .i64 s.ow, .int .i64 s.ep, .int .i64 s.ln, .slice (some ⟨s.g, 0, none⟩) 4 s.c] 37)) (k : Int) s.st s.ow s.ep s.ln (hxs.alloc _) hsa.1 hsa.2)
      obtain ⟨z0, z1, z2, z3, z4, z5⟩ := agg6 hX
      have HX := hid hX
      have hsz := hJ3.size
      have HJ := hid (And.intro hJ1 hJ3)
      clear hJ1 hJ3 hr hr0 hxs hX hs hsa
      go_wp2_with fail
      refine hc.out.mono ?_
      rintro e w2 ⟨rfl, h2⟩
      have hX2 := HX.out.below h2 (by simp)
      have y0 : w2.cell? ⟨wr.heap.size, 0, none⟩ = some (.int .i64 k) := (hX2.cell 0).trans rfl
      have hw2 := h2.size
      have hB2 : Hid (Below wr.heap.size wr w2) := ((Below.refl wr.heap.size wr).alloc (Nat.le_refl _) _).trans (h2.mono (by simp))
      have hJ2r : Hid (w2.ownsRow w.heap.size 3 1 u5 k (nums (upto k))) := own_keep HJ.out.1 fun k _ hk => hB2.out.block k hk
      have hw3 := hB2.out.size
      clear h2 hX2
      have hJk : k ≤ 100000 := by omega
      go_wp2_with (at_builtin; refine wpList_app1 _ rfl (.tmp 22) (.tmp 25) 26 3 (.int .i64 0) 8 rfl Tryz.underlying26 info3 rfl (by decide) w.heap.size u5 k (nums (upto k)) rfl (.inl hJ2r.out) _ rfl rfl (by omega) (by omega) ?_; intro v' w4 h5 h6; have H5 := hid h5; have H6 := hid h6; clear h5 h6)
      go_roundw
      case rel =>
        refine ⟨k + 1, by omega, by go_num, ?_, (HJ.out.2.trans (hB2.out.mono hsz)).trans H6.out⟩
        have := H5.out
        rw [upto_succ]
        simpa [nums] using this
      case measure => simp [intOf]; omega
    · obtain rfl : k = L.length := by omega
      have HJ := hid hI.out
      go_wp2_with fail
      go_ret
      exact ⟨_, rfl, HJ.out.1, HJ.out.2⟩
set_option maxRecDepth 100000 in
set_option maxHeartbeats 1600000 in
theorem which_is (h : Smp S w g L) (hL : L.length ≤ 100000) {p : Nat} {x : Int} (hp : w.cell? ⟨p, 0, none⟩ = some (.int .i64 x)) (hall : ∀ s ∈ L, s.st = x) :
    Calls Tryz.prog 186 #[.pointer (some ⟨g, 0, none⟩), .func (.func 187) #[] #[.pointer (some ⟨p, 0, none⟩)]] w fun e w' => ∃ v, e = .returned v ∧ w'.ownsRow w.heap.size 3 1 v L.length (nums (upto L.length)) ∧ Below w.heap.size w w' := by
  obtain ⟨A, c, hb, hrow, hrest⟩ := h
  have e0 : w.cell? ⟨g, 0, none⟩ = some (.slice A L.length c) := (hb.cell 0).trans rfl
  have hlc : L.length ≤ c := (own_holdsS hrow).2.1
  have HROW := hid hrow
  have HALL := hid hall
  have hpl : Hid (p < w.heap.size) := World.block_lt_of_cell? w _ hp
  have HR := hid (And.intro hb hrest)
  clear hb hrow hrest hall
  go_enter Tryz.func186, Tryz.ntmps186
  go_wp2_with fail
  go_loopw [5, 15] (fun v5 v15 wr => ∃ k : Nat, k ≤ L.length ∧ v15 = .int .i64 k ∧ Hid (WhRel w wr k v5)) (fun _ v15 _ => L.length - (intOf v15).toNat)
  case atStart => exact ⟨0, Nat.zero_le _, rfl, World.ownsRow_nil _ _ _ _, Below.refl _ _⟩
  case round =>
    obtain ⟨k, hk, rfl, hI⟩ := hrel
    by_cases hkn : k < L.length
    · obtain ⟨s, hs⟩ : ∃ s, L[k]? = some s := ⟨_, List.getElem?_eq_getElem hkn⟩
      obtain ⟨hJ1, hJ3⟩ := hI.out
      rcases own_blk HROW.out with ⟨_, h0, _⟩ | ⟨r, cur, rfl, _⟩
      · omega
      have hr0 : AtS S w g L r := ⟨⟨c, HR.out.1, HROW.out⟩, HR.out.2.1, HR.out.2.2.1 _ rfl, HR.out.2.2.2.1, HR.out.2.2.2.2⟩
      have hr := hr0.below hJ3
      obtain ⟨a0, a1, a2, a3, a4, a5⟩ := hr.six hs
      have hxs := (hr.srv s (List.mem_of_getElem? hs)).2
      unfold Srv at hxs
      have hsa := HALL.out s (List.mem_of_getElem? hs)
      have hpr : wr.cell? ⟨p, 0, none⟩ = some (.int .i64 x) := (hJ3.cell hpl.out).trans hp
      have hX := Blk.new wr 37 #[.int .i64 (k : Int), .int .i64 s.st, .int .i64 s.ow, .int .i64 s.ep, .int .i64 s.ln, .slice (some ⟨s.g, 0, none⟩) 4 s.c]
      have hc := hid (is4 (cellA hpr (.cells #[.int .i64 (k : Int), .int .i64 s.st, .int .i64 s.ow, .int .i64 s.ep, .int .i64 s.ln, .slice (some ⟨s.g, 0, none⟩) 4 s.c] 37)) (k : Int) s.st s.ow s.ep s.ln (q := s.g) (c := s.c) hsa)
      obtain ⟨z0, z1, z2, z3, z4, z5⟩ := agg6 hX
      have HX := hid hX
      have hsz := hJ3.size
      have HJ := hid (And.intro hJ1 hJ3)
      clear hJ1 hJ3 hr hr0 hxs hX hs hsa
      go_wp2_with fail
      refine hc.out.mono ?_
      rintro e w2 ⟨rfl, h2⟩
      have hX2 := HX.out.below h2 (by simp)
      have y0 : w2.cell? ⟨wr.heap.size, 0, none⟩ = some (.int .i64 k) := (hX2.cell 0).trans rfl
      have hw2 := h2.size
      have hB2 : Hid (Below wr.heap.size wr w2) := ((Below.refl wr.heap.size wr).alloc (Nat.le_refl _) _).trans (h2.mono (by simp))
      have hJ2r : Hid (w2.ownsRow w.heap.size 3 1 u5 k (nums (upto k))) := own_keep HJ.out.1 fun k _ hk => hB2.out.block k hk
      have hw3 := hB2.out.size
      clear h2 hX2
      have hJk : k ≤ 100000 := by omega
      go_wp2_with (at_builtin; refine wpList_app1 _ rfl (.tmp 22) (.tmp 25) 26 3 (.int .i64 0) 8 rfl Tryz.underlying26 info3 rfl (by decide) w.heap.size u5 k (nums (upto k)) rfl (.inl hJ2r.out) _ rfl rfl (by omega) (by omega) ?_; intro v' w4 h5 h6; have H5 := hid h5; have H6 := hid h6; clear h5 h6)
      go_roundw
      case rel =>
        refine ⟨k + 1, by omega, by go_num, ?_, (HJ.out.2.trans (hB2.out.mono hsz)).trans H6.out⟩
        have := H5.out
        rw [upto_succ]
        simpa [nums] using this
      case measure => simp [intOf]; omega
    · obtain rfl : k = L.length := by omega
      have HJ := hid hI.out
      go_wp2_with fail
      go_ret
      exact ⟨_, rfl, HJ.out.1, HJ.out.2⟩
theorem sOn4 (h : Smp S w g L) (hSB : ∀ k, S k → k < w.heap.size) (hL : L.length ≤ 100000) (x : Int) (hall : ∀ s ∈ L, s.st ≠ 3 ∧ x ∈ s.xs) :
    Calls Tryz.prog 167 #[.pointer (some ⟨g, 0, none⟩), .int .i64 x] w fun e w' => ∃ v, e = .returned v ∧ w'.ownsRow w.heap.size 3 1 v L.length (nums (upto L.length)) ∧ Below w.heap.size w w' := by
  have hb := (Below.refl w.heap.size w).alloc (Nat.le_refl _) (.cells #[.int .i64 x] 3)
  have hx : (w.alloc (.cells #[.int .i64 x] 3)).cell? ⟨w.heap.size, 0, none⟩ = some (.int .i64 x) := by rw [(Blk.new w 3 _).cell]; rfl
  have hc := hid (which_on (h.keep fun k hk _ => hb.block k (hSB k hk)) hL hx hall)
  have HB := hid hb
  clear h hb hx hSB hall
  go_enter Tryz.func167, Tryz.ntmps167
  go_wp2_with fail
  refine hc.out.mono ?_
  rintro e w' ⟨v, rfl, h1, h3⟩
  have H1 := hid h1
  have H3 := hid h3
  clear h1 h3
  go_wp2_with fail
  go_ret
  exact ⟨v, rfl, own_lower H1.out (by simp), HB.out.trans (H3.out.mono (by simp))⟩
theorem sList4 (h : Smp S w g L) (hSB : ∀ k, S k → k < w.heap.size) (hL : L.length ≤ 100000) (x : Int) (hall : ∀ s ∈ L, s.st = x) :
    Calls Tryz.prog 121 #[.pointer (some ⟨g, 0, none⟩), .int .i64 x] w fun e w' => ∃ v, e = .returned v ∧ w'.ownsRow w.heap.size 3 1 v L.length (nums (upto L.length)) ∧ Below w.heap.size w w' := by
  have hb := (Below.refl w.heap.size w).alloc (Nat.le_refl _) (.cells #[.int .i64 x] 3)
  have hx : (w.alloc (.cells #[.int .i64 x] 3)).cell? ⟨w.heap.size, 0, none⟩ = some (.int .i64 x) := by rw [(Blk.new w 3 _).cell]; rfl
  have hc := hid (which_is (h.keep fun k hk _ => hb.block k (hSB k hk)) hL hx hall)
  have HB := hid hb
  clear h hb hx hSB hall
  go_enter Tryz.func121, Tryz.ntmps121
  go_wp2_with fail
  refine hc.out.mono ?_
  rintro e w' ⟨v, rfl, h1, h3⟩
  have H1 := hid h1
  have H3 := hid h3
  clear h1 h3
  go_wp2_with fail
  go_ret
  exact ⟨v, rfl, own_lower H1.out (by simp), HB.out.trans (H3.out.mono (by simp))⟩
end
end Go.Proofs.YtopbojifllnckaaGreatDoor.F
namespace Go.Proofs.YtopbojifllnckaaGreatDoor.F
open Go.RowKit
attribute [local irreducible] wpQuiet
section
variable {S : Nat → Prop} {w : World} {g : Nat} {L : List Str}
theorem nodup_at {L : List Str} (h : (L.map Str.g).Nodup) {i j : Nat} {s t : Str} (hi : L[i]? = some s) (hj : L[j]? = some t) (e : s.g = t.g) : i = j := by
  have h1 := (List.getElem?_eq_some_iff.1 hi).1
  have h2 := (List.getElem?_eq_some_iff.1 hj).1
  have e1 := (List.getElem?_eq_some_iff.1 hi).2
  have e2 := (List.getElem?_eq_some_iff.1 hj).2
  rcases Nat.lt_trichotomy i j with h3 | h3 | h3
  · have := List.pairwise_iff_getElem.1 h i j (by simpa using h1) (by simpa using h2) h3
    simp [e1, e2, e] at this
  · exact h3
  · have := List.pairwise_iff_getElem.1 h j i (by simpa using h2) (by simpa using h1) h3
    simp [e1, e2, e] at this
theorem rowS_xs : ∀ (L : List Str) (i j : Nat) (s : Str) (ys : List Int), L[j]? = some s → rowS i (L.set j { s with xs := ys }) = rowS i L
  | [], _, _, _, _, h => by simp at h
  | t :: L, i, 0, s, ys, h => by
    simp only [List.getElem?_cons_zero, Option.some.injEq] at h
    subst h
    rfl
  | t :: L, i, j + 1, s, ys, h => by
    simp only [List.getElem?_cons_succ] at h
    simp only [rowS, List.set_cons_succ, rowS_xs L (i + 1) j s ys h]
/-- A server is written. -/
theorem AtS.server {r : Nat} (h : AtS S w g L r) {i : Nat} {s : Str} (hs : L[i]? = some s) (j : Nat) (y : Int) : AtS S (w.setCell ⟨s.g, j, none⟩ (.int .i64 y)) g (L.set i { s with xs := s.xs.set j y }) r := by
  obtain ⟨⟨c, h1, h2⟩, h3, h4, h5, hnd⟩ := h
  have hs0 := (h5 s (List.mem_of_getElem? hs)).2
  have hbs : ∃ cur, Blk w s.g 3 cur := by
    rcases own_blk hs0 with ⟨e, _⟩ | ⟨q, cur, e, _, h7, _⟩
    · cases e
    · cases e; exact ⟨cur, h7⟩
  obtain ⟨cur, hcur⟩ := hbs
  have hl : (L.set i { s with xs := s.xs.set j y }).length = L.length := List.length_set
  refine ⟨⟨c, ?_, ?_⟩, h3, h4, fun t ht => ?_, by rw [map_set_same Str.g L i s { s with xs := s.xs.set j y } hs rfl]; exact hnd⟩
  · rw [hl]
    exact h1.far (h1.ne_ hcur (by decide)) _
  · rw [hl, rowS_xs L 0 i s _ hs]
    refine own_at h2 fun ad e hlt => Below.heap_setCell w _ _ _ ?_
    cases e
    rcases own_blk h2 with ⟨e, _⟩ | ⟨q, cur', e, _, h7, _⟩
    · cases e
    · cases e
      exact h7.ne_ hcur (by decide)
  · obtain ⟨k, hk, rfl⟩ := List.getElem_of_mem ht
    rw [List.length_set] at hk
    by_cases e : k = i
    · subst e
      rw [List.getElem_set_self]
      refine ⟨(h5 s (List.mem_of_getElem? hs)).1, ?_⟩
      have hset := (hs0.stored j (.int .i64 y)).1
      unfold Srv nums
      unfold nums at hset
      rw [List.map_set]
      exact hset
    · rw [List.getElem_set_ne (Ne.symm e)]
      obtain ⟨h6, h7⟩ := h5 L[k] (List.getElem_mem hk)
      refine ⟨h6, own_at h7 fun ad e2 hlt => Below.heap_setCell w _ _ _ ?_⟩
      cases e2
      exact fun e3 => e (nodup_at hnd (List.getElem?_eq_getElem hk) hs e3)
set_option maxRecDepth 100000 in
set_option maxHeartbeats 1600000 in
theorem sMove4 (h : Smp S w g L) {j : Nat} {s : Str} (hs : L[j]? = some s) (jx : Nat) (x : Int) (hj4 : jx < 4) (hx : 0 ≤ x ∧ x < 64) (hno : x ∉ s.xs) (hst : s.st ≠ 3) :
    Calls Tryz.prog 168 #[.pointer (some ⟨g, 0, none⟩), .int .i64 j, .int .i64 jx, .int .i64 x] w fun e w' => e = .returned (.int .i64 0) ∧ SEnd S w g (L.set j { s with xs := s.xs.set jx x }) w' := by
  have hj : j < L.length := (List.getElem?_eq_some_iff.1 hs).1
  obtain ⟨r, hr⟩ := h.at_ hj
  have hc := hid (sAt_ok hr j hj)
  obtain ⟨a0, a1, a2, a3, a4, a5⟩ := hr.six hs
  have hsm := List.mem_of_getElem? hs
  have hxs := (hr.srv s hsm).2
  unfold Srv at hxs
  have hxl : s.xs.length = 4 := by have := hxs.1; rw [nums_length] at this; omega
  have hci1 := idxAt_any (c := s.c) x (hid (IntsAt.of_holds (own_holdsS hxs).1)) hxl (by decide)
  rw [show atI s.xs x = -1 by unfold atI; rw [if_neg hno]] at hci1
  have hci := hid hci1
  have d0 : decide ((jx : Int) < 0) = false := by simp
  have d1 : decide ((4 : Int) ≤ (jx : Int)) = false := by simp; omega
  have d2 : decide (x < 0) = false := by simp; omega
  have d3 : decide (64 ≤ x) = false := by simp; omega
  have hu : ∃ u, w.cell? ⟨s.g, jx, none⟩ = some u := ⟨_, by rw [hxs.cellAt jx (by omega)]; exact nums_get (by omega)⟩
  obtain ⟨u, hu⟩ := hu
  have fu := hxs.frozenAt jx
  have H2 : Hid (SEnd S w g (L.set j { s with xs := s.xs.set jx x }) (w.setCell ⟨s.g, jx, none⟩ (.int .i64 x))) := ⟨(hr.server hs jx x).smp, setS (hr.srv s hsm).1 _ _ (Only.refl _ _), by simp [World.setCell]⟩
  have hc3 : 4 ≤ s.c := (own_holdsS hxs).2.1
  have d4 : (s.st == 3) = false := by simp [hst]
  clear h hr hs hxs hxl hj hsm hci1 hno hst
  go_enter Tryz.func168, Tryz.ntmps168
  go_wp2_with fail
  refine hc.out.mono ?_
  rintro e w1 ⟨rfl, rfl⟩
  go_wp2_with fail
  refine hci.out.mono ?_
  rintro e w1 ⟨rfl, rfl⟩
  go_wp2_with fail
  go_ret
  exact ⟨rfl, H2.out⟩
end
end Go.Proofs.YtopbojifllnckaaGreatDoor.F
namespace Go.Proofs.YtopbojifllnckaaGreatDoor
open Go.RowKit
theorem secs_congr {D D' : List ByteArray} {a k : Nat} (h : ∀ i, i < k → D[a + i]? = D'[a + i]?) : secs D a k = secs D' a k := by
  have e : (D.drop a).take k = (D'.drop a).take k := by
    refine List.ext_getElem? fun i => ?_
    rw [List.getElem?_take, List.getElem?_take]
    split
    · rw [List.getElem?_drop, List.getElem?_drop]
      exact h i (by assumption)
    · rfl
  unfold secs
  rw [e]
theorem wrD_out (D : List ByteArray) (a : Nat) (s : ByteArray) (q : Nat) : ∀ i, (q < a ∨ a + i ≤ q) → (wrD D a s i)[q]? = D[q]?
  | 0, _ => rfl
  | i + 1, h => by
    rw [wrD, List.getElem?_set_ne (by omega), wrD_out D a s q i (by omega)]
theorem wrD_in (D : List ByteArray) (a : Nat) (s : ByteArray) (j : Nat) : ∀ i, j < i → a + i ≤ D.length → (wrD D a s i)[a + j]? = some (s.extract (j * 64) ((j + 1) * 64))
  | 0, h, _ => by omega
  | i + 1, h, hl => by
    rw [wrD]
    by_cases e : j = i
    · subst e
      rw [List.getElem?_set_self (by rw [wrD_length]; omega)]
    · rw [List.getElem?_set_ne (by omega), wrD_in D a s j i (by omega) (by omega)]
theorem ext_list (s : ByteArray) (a b : Nat) : (s.extract a b).data.toList = (s.data.toList.drop a).take (b - a) := by
  simp [ByteArray.data_extract, Array.toList_extract, List.extract]
theorem secs_wrD (D : List ByteArray) (a : Nat) (s : ByteArray) (n : Nat) (hl : a + n ≤ D.length) : ∀ k, k ≤ n → secs (wrD D a s n) a k = s.data.toList.take (k * 64)
  | 0, _ => by simp [secs_zero]
  | k + 1, hk => by
    rw [secs_succ _ _ _ (wrD_in D a s k n (by omega) hl), secs_wrD D a s n hl k (by omega), ext_list, Nat.add_mul, Nat.one_mul, List.take_add]
    congr 2
    omega
theorem pad_list (s : ByteArray) (n : Nat) : (padS s n).data.toList = s.data.toList ++ List.replicate (n - s.size) 0 := by
  simp [padS, zeroS, ByteArray.data_append]
/-- The sectors behind a Put into slot j. -/
def putSec (D : List ByteArray) (j st ix : Nat) (body : ByteArray) : List ByteArray := wrD (wrD D (9 * j + 1) (padS body 512) 8) (9 * j) (headS st ix body) 1
theorem body_here {D : List ByteArray} {j st ix : Nat} {body : ByteArray} (hb : body.size ≤ 512) (hl : 9 * j + 9 ≤ D.length) : Body (putSec D j st ix body) j body := by
  refine ⟨?_, hb⟩
  have e : secs (putSec D j st ix body) (9 * j + 1) 8 = secs (wrD D (9 * j + 1) (padS body 512) 8) (9 * j + 1) 8 := secs_congr fun i hi => wrD_out _ _ _ _ 1 (by omega)
  rw [e, secs_wrD D (9 * j + 1) (padS body 512) 8 (by omega) 8 (Nat.le_refl _), pad_list, List.take_of_length_le]
  rw [List.length_append, List.length_replicate, Array.length_toList]
  show body.size + _ ≤ _
  omega
theorem body_there {D : List ByteArray} {j j' st ix : Nat} {body b : ByteArray} (h : Body D j' b) (hj : j' ≠ j) : Body (putSec D j st ix body) j' b := by
  refine ⟨?_, h.2⟩
  rw [← h.1]
  refine secs_congr fun i hi => ?_
  unfold putSec
  rw [wrD_out _ _ _ _ 1 (by omega), wrD_out _ _ _ _ 8 (by omega)]
/-- A fragment that is stored. -/
structure Fr where
  st : Nat
  ix : Nat
  body : ByteArray
/-- Slots and sectors have just these fragments, in order. -/
structure Fill (L : List Ent) (D : List ByteArray) (C : List Fr) : Prop where
  has : ∀ j f, C[j]? = some f → L[j]? = some ⟨true, f.st, f.ix, f.body.size⟩ ∧ Body D j f.body
  off : ∀ j e, C.length ≤ j → L[j]? = some e → e.on = false
theorem Fill.free {L : List Ent} {D : List ByteArray} {C : List Fr} (h : Fill L D C) (hl : C.length < L.length) : idxI pFree L = C.length := by
  refine idxI_here _ _ _ (List.getElem?_eq_getElem hl) (by simp [pFree, h.off _ _ (Nat.le_refl _) (List.getElem?_eq_getElem hl)]) fun j e' hj he => ?_
  have := (h.has j _ (List.getElem?_eq_getElem hj)).1
  rw [this] at he
  cases he
  rfl
theorem Fill.none {L : List Ent} {D : List ByteArray} {C : List Fr} (h : Fill L D C) {st ix : Int} (hn : ∀ f ∈ C, ¬ ((f.st : Int) = st ∧ (f.ix : Int) = ix)) : idxI (pAt st ix) L = -1 := by
  refine idxI_none _ _ fun j e he => ?_
  by_cases hj : j < C.length
  · have := (h.has j _ (List.getElem?_eq_getElem hj)).1
    rw [this] at he
    cases he
    have hh := hn _ (List.getElem_mem hj)
    by_cases c1 : (C[j].st : Int) = st
    · by_cases c2 : (C[j].ix : Int) = ix
      · exact absurd ⟨c1, c2⟩ hh
      · simp [pAt, c2]
    · simp [pAt, c1]
  · simp [pAt, h.off j e (by omega) he]
theorem Fill.at_ {L : List Ent} {D : List ByteArray} {C : List Fr} (h : Fill L D C) {st ix : Int} {j : Nat} {f : Fr} (hj : C[j]? = some f) (h1 : (f.st : Int) = st) (h2 : (f.ix : Int) = ix)
    (hn : ∀ k g, k < j → C[k]? = some g → ¬ ((g.st : Int) = st ∧ (g.ix : Int) = ix)) : idxI (pAt st ix) L = j := by
  refine idxI_here _ _ _ (h.has j f hj).1 (by simp [pAt, h1, h2]) fun k e' hk he => ?_
  have hj2 := (List.getElem?_eq_some_iff.1 hj).1
  have hkl : k < C.length := by omega
  have := (h.has k _ (List.getElem?_eq_getElem hkl)).1
  rw [this] at he
  cases he
  have hh := hn k _ hk (List.getElem?_eq_getElem hkl)
  by_cases c1 : (C[k].st : Int) = st
  · by_cases c2 : (C[k].ix : Int) = ix
    · exact absurd ⟨c1, c2⟩ hh
    · simp [pAt, c2]
  · simp [pAt, c1]
theorem Fill.put {L : List Ent} {D : List ByteArray} {C : List Fr} (h : Fill L D C) (hl : C.length < L.length) (hd : 9 * L.length ≤ D.length) (st ix : Nat) (body : ByteArray) (hb : body.size ≤ 512) :
    Fill (L.set C.length ⟨true, st, ix, body.size⟩) (putSec D C.length st ix body) (C ++ [⟨st, ix, body⟩]) := by
  refine ⟨fun j f hj => ?_, fun j e hj he => ?_⟩
  · by_cases c : j < C.length
    · rw [List.getElem?_append_left c] at hj
      obtain ⟨h1, h2⟩ := h.has j f hj
      exact ⟨by rw [List.getElem?_set_ne (by omega)]; exact h1, body_there h2 (by omega)⟩
    · have hjl := (List.getElem?_eq_some_iff.1 hj).1
      simp at hjl
      obtain rfl : j = C.length := by omega
      simp at hj
      subst hj
      exact ⟨List.getElem?_set_self hl, body_here hb (by omega)⟩
  · rw [List.length_append, List.length_singleton] at hj
    rw [List.getElem?_set_ne (by omega)] at he
    exact h.off j e (by omega) he
end Go.Proofs.YtopbojifllnckaaGreatDoor
namespace Go.Proofs.YtopbojifllnckaaGreatDoor
open Go.RowKit
attribute [local irreducible] wpQuiet
def isAt (st ix : Nat) (f : Fr) : Bool := decide (f.st = st) && decide (f.ix = ix)
/-- The fragment of a place. -/
def look (C : List Fr) (st ix : Nat) : Option ByteArray := (C.find? (isAt st ix)).map Fr.body
def gotR : Option ByteArray → ByteArray × Nat
  | some b => (b, 0)
  | none => (⟨#[]⟩, 7)
/-- What a server gives. -/
def srvGet (down lost : Bool) (C : List Fr) (st ix : Nat) : ByteArray × Nat := if (down || lost) = true then (⟨#[]⟩, 8) else gotR (look C st ix)
/-- A store of just these fragments in blocks of S. -/
def Store (S : Nat → Prop) (w : World) (g d : Nat) (C : List Fr) : Prop :=
  ∃ (Sd : Nat → Prop) (r c : Nat) (L : List Ent) (D : List ByteArray), FrgAt S Sd w g d r c L D 0 ∧ Fill L D C ∧ L.length = 11 ∧ C.length ≤ 11
section
variable {S S' : Nat → Prop} {w w' : World} {g d : Nat} {C : List Fr}
theorem Store.keep (h : Store S w g d C) (hk : ∀ k, S k → k < w.heap.size → w'.heap[k]? = w.heap[k]?) : Store S w' g d C := by
  obtain ⟨Sd, r, c, L, D, h1, h2⟩ := h
  exact ⟨Sd, r, c, L, D, h1.keep hk, h2⟩
theorem FrgAt.mono {Sd : Nat → Prop} {r c n : Nat} {L : List Ent} {D : List ByteArray} (h : FrgAt S Sd w g d r c L D n) (hS : ∀ k, S k → S' k) : FrgAt S' Sd w g d r c L D n :=
  ⟨h.blk, h.slots, h.dev, fun k hk => hS k (h.sub k hk), h.ng, h.nr, hS _ h.sg, hS _ h.sr, h.cap, h.len, h.dl, h.dm, h.d64⟩
theorem Store.mono (h : Store S w g d C) (hS : ∀ k, S k → S' k) : Store S' w g d C := by
  obtain ⟨Sd, r, c, L, D, h1, h2⟩ := h
  exact ⟨Sd, r, c, L, D, h1.mono hS, h2⟩
theorem find_at {st ix : Nat} {f : Fr} (h : C.find? (isAt st ix) = some f) : ∃ j, C[j]? = some f ∧ f.st = st ∧ f.ix = ix ∧ ∀ (k : Nat) (g : Fr), k < j → C[k]? = some g → ¬ ((g.st : Int) = (st : Int) ∧ (g.ix : Int) = (ix : Int)) := by
  rw [List.find?_eq_some_iff_getElem] at h
  obtain ⟨h1, j, hj, h2, h3⟩ := h
  simp only [isAt, Bool.and_eq_true, decide_eq_true_eq] at h1
  refine ⟨j, by rw [List.getElem?_eq_getElem hj, h2], h1.1, h1.2, fun k g hk hg => ?_⟩
  have hkl : k < C.length := by omega
  rw [List.getElem?_eq_getElem hkl] at hg
  cases hg
  have := h3 k hk
  simp only [isAt, Bool.not_eq_true', Bool.and_eq_false_iff, decide_eq_false_iff_not] at this
  omega
theorem find_no {st ix : Nat} (h : C.find? (isAt st ix) = none) : ∀ f ∈ C, ¬ ((f.st : Int) = (st : Int) ∧ (f.ix : Int) = (ix : Int)) := by
  rw [List.find?_eq_none] at h
  intro f hf
  have := h f hf
  simp only [isAt, Bool.and_eq_true, decide_eq_true_eq] at this
  omega
theorem Store.get (h : Store S w g d C) (st ix : Nat) (w2 : World) (hb : Below w.heap.size w w2) :
    Calls Tryz.prog 244 #[.pointer (some ⟨g, 0, none⟩), .agg #[.int .i64 st, .int .i64 ix]] w2 fun e w' => e = .returned (.tuple #[.string (gotR (look C st ix)).1, .int .i64 (gotR (look C st ix)).2]) ∧ Below w2.heap.size w2 w' := by
  obtain ⟨Sd, r, c, L, D, h1, h2, h3, h4⟩ := h
  have h1 := h1.below hb
  unfold look
  cases hf : C.find? (isAt st ix) with
  | none => exact fGet_none h1 _ _ (h2.none (find_no hf))
  | some f =>
    obtain ⟨j, hj, rfl, rfl, hn⟩ := find_at hf
    exact fGet_ok h1 _ _ j (h2.at_ hj rfl rfl hn) f.body ⟨_, (h2.has j f hj).1, rfl⟩ (h2.has j f hj).2
theorem srvGet_any {sg i v : Nat} {down lost : Bool} (h : SrvAt w sg i v d g down lost) (hs : Store S w g d C) (st ix : Nat) :
    Calls Tryz.prog 184 #[.pointer (some ⟨sg, 0, none⟩), .int .i64 i, .agg #[.int .i64 st, .int .i64 ix]] w fun e w' => e = .returned (.tuple #[.string (srvGet down lost C st ix).1, .int .i64 (srvGet down lost C st ix).2]) ∧ Below w.heap.size w w' := by
  unfold srvGet
  by_cases hd : (down || lost) = true
  · rw [if_pos hd]
    exact sGet_down h hd _ _
  · rw [if_neg hd]
    simp only [Bool.or_eq_true, not_or, Bool.not_eq_true] at hd
    obtain ⟨rfl, rfl⟩ := hd
    exact sGet_with h _ _ _ _ fun W2 hb => hs.get st ix W2 hb
theorem look_append (C : List Fr) (st ix : Nat) (body : ByteArray) (h : look C st ix = none) : look (C ++ [⟨st, ix, body⟩]) st ix = some body := by
  unfold look at h ⊢
  rw [Option.map_eq_none_iff] at h
  rw [List.find?_append, h]
  simp [isAt]
theorem look_other (C : List Fr) {st ix st' ix' : Nat} (body : ByteArray) (h : ¬ (st' = st ∧ ix' = ix)) : look (C ++ [⟨st', ix', body⟩]) st ix = look C st ix := by
  unfold look
  rw [List.find?_append]
  cases C.find? (isAt st ix) with
  | some f => rfl
  | none =>
    have : isAt st ix ⟨st', ix', body⟩ = false := by
      simp only [isAt, Bool.and_eq_false_iff, decide_eq_false_iff_not]
      omega
    simp [List.find?, this]
theorem srvPut_any {sg i v : Nat} (h : SrvAt w sg i v d g false false) (hs : Store S w g d C) (hS : ∀ k, S k → k < w.heap.size) (hC : C.length < 11) (st ix : Nat) (body : ByteArray) (hst : st < 2147483648) (hix : ix < 8) (hb : body.size ≤ 512) (hno : look C st ix = none) :
    Calls Tryz.prog 113 #[.pointer (some ⟨sg, 0, none⟩), .int .i64 i, .agg #[.int .i64 st, .int .i64 ix], .string body] w fun e w' => e = .returned (.int .i64 0) ∧ Store S w' g d (C ++ [⟨st, ix, body⟩]) ∧ Only S w w' := by
  obtain ⟨Sd, r, c, L, D, h1, h2, h3, h4⟩ := hs
  have hf : C.find? (isAt st ix) = none := by unfold look at hno; rwa [Option.map_eq_none_iff] at hno
  refine (sPut_up h h1 hS st ix C.length body hst hix hb (h2.free (by omega)) (by omega) (h2.none (find_no hf))).mono ?_
  rintro e w' ⟨he, k1, k2⟩
  exact ⟨he, ⟨Sd, r, c, _, _, k1, h2.put (by omega) h1.dl st ix body hb, by rw [List.length_set]; exact h3, by simp; omega⟩, k2⟩
end
end Go.Proofs.YtopbojifllnckaaGreatDoor
namespace Go.Proofs.YtopbojifllnckaaGreatDoor
open Go.RowKit
attribute [local irreducible] wpQuiet
/-- Five servers in blocks of S; their stores stand in the blocks g. -/
def Srvs (S : Nat → Prop) (w : World) (sg : Nat) (g d : Nat → Nat) (dn ls : Nat → Bool) : Prop :=
  ∃ (r c : Nat) (cs : Array Value) (v : Nat → Nat), Blk w sg 198 #[.slice (some ⟨r, 0, none⟩) 5 c] ∧ Blk w r 101 cs ∧ S sg ∧ S r ∧
    (∀ i, i < 5 → cs[i]? = some (.pointer (some ⟨v i, 0, none⟩)) ∧ Blk w (v i) 106 #[.pointer (some ⟨d i, 0, none⟩), .pointer (some ⟨g i, 0, none⟩), .bool (dn i), .bool (ls i)] ∧ S (v i)) ∧
    ∀ i j, i < 5 → j < 5 → v i = v j → i = j
/-- Another one at i. -/
def upd {α : Type} (f : Nat → α) (i : Nat) (x : α) (j : Nat) : α := if j = i then x else f j
theorem upd_same {α : Type} (f : Nat → α) (i : Nat) (x : α) : upd f i x i = x := if_pos rfl
theorem upd_other {α : Type} (f : Nat → α) {i j : Nat} (x : α) (h : j ≠ i) : upd f i x j = f j := if_neg h
section
variable {S S' : Nat → Prop} {w w' : World} {sg : Nat} {g d : Nat → Nat} {dn ls : Nat → Bool}
theorem Srvs.keep (h : Srvs S w sg g d dn ls) (hk : ∀ k, S k → k < w.heap.size → w'.heap[k]? = w.heap[k]?) : Srvs S w' sg g d dn ls := by
  obtain ⟨r, c, cs, v, h1, h2, h3, h4, h5, h6⟩ := h
  exact ⟨r, c, cs, v, (hk _ h3 h1.lt).trans h1, (hk _ h4 h2.lt).trans h2, h3, h4, fun i hi => ⟨(h5 i hi).1, (hk _ (h5 i hi).2.2 (h5 i hi).2.1.lt).trans (h5 i hi).2.1, (h5 i hi).2.2⟩, h6⟩
theorem Srvs.mono (h : Srvs S w sg g d dn ls) (hS : ∀ k, S k → S' k) : Srvs S' w sg g d dn ls := by
  obtain ⟨r, c, cs, v, h1, h2, h3, h4, h5, h6⟩ := h
  exact ⟨r, c, cs, v, h1, h2, hS _ h3, hS _ h4, fun i hi => ⟨(h5 i hi).1, (h5 i hi).2.1, hS _ (h5 i hi).2.2⟩, h6⟩
theorem Srvs.at_ (h : Srvs S w sg g d dn ls) {i : Nat} (hi : i < 5) : ∃ v, SrvAt w sg i v (d i) (g i) (dn i) (ls i) := by
  obtain ⟨r, c, cs, v, h1, h2, h3, h4, h5, h6⟩ := h
  exact ⟨v i, r, 5, c, cs, hi, by omega, h1, h2, (h5 i hi).1, (h5 i hi).2.1⟩
/-- Server i's word is turned. -/
theorem Srvs.turn (h : Srvs S w sg g d dn ls) {i : Nat} (hi : i < 5) : ∃ v, SrvAt w sg i v (d i) (g i) (dn i) (ls i) ∧ S v ∧
    (∀ b, Srvs S (w.setCell ⟨v, 2, none⟩ (.bool b)) sg g d (upd dn i b) ls) ∧ ∀ b, Srvs S (w.setCell ⟨v, 3, none⟩ (.bool b)) sg g d dn (upd ls i b) := by
  obtain ⟨r, c, cs, v, h1, h2, h3, h4, h5, h6⟩ := h
  have n1 : sg ≠ v i := h1.ne_ (h5 i hi).2.1 (by decide)
  have n2 : r ≠ v i := h2.ne_ (h5 i hi).2.1 (by decide)
  refine ⟨v i, ⟨r, 5, c, cs, hi, by omega, h1, h2, (h5 i hi).1, (h5 i hi).2.1⟩, (h5 i hi).2.2, fun b => ?_, fun b => ?_⟩
  · refine ⟨r, c, cs, v, h1.far n1 _, h2.far n2 _, h3, h4, fun j hj => ⟨(h5 j hj).1, ?_, (h5 j hj).2.2⟩, h6⟩
    by_cases e : j = i
    · subst e
      rw [upd_same]
      exact (h5 j hj).2.1.set_ 2 _
    · rw [upd_other _ _ e]
      exact (h5 j hj).2.1.far (fun c => e (h6 j i hj hi c)) _
  · refine ⟨r, c, cs, v, h1.far n1 _, h2.far n2 _, h3, h4, fun j hj => ⟨(h5 j hj).1, ?_, (h5 j hj).2.2⟩, h6⟩
    by_cases e : j = i
    · subst e
      rw [upd_same]
      exact (h5 j hj).2.1.set_ 3 _
    · rw [upd_other _ _ e]
      exact (h5 j hj).2.1.far (fun c => e (h6 j i hj hi c)) _
theorem SrvAt.cells {i v d q : Nat} {down lost : Bool} (h : SrvAt w sg i v d q down lost) : w.cell? ⟨v, 2, none⟩ = some (.bool down) ∧ w.cell? ⟨v, 3, none⟩ = some (.bool lost) ∧ w.frozen? ⟨v, 2, none⟩ = false ∧ w.frozen? ⟨v, 3, none⟩ = false := by
  obtain ⟨r, n, c, cs, h1, h2, h3, h4, h5, h6⟩ := h
  exact ⟨(h6.cell 2).trans rfl, (h6.cell 3).trans rfl, h6.frozen 2, h6.frozen 3⟩
theorem Down_ok (h : Srvs S w sg g d dn ls) {i : Nat} (hi : i < 5) (hl : ls i = false) (b : Bool) : Calls Tryz.prog 14 #[.pointer (some ⟨sg, 0, none⟩), .int .i64 i, .bool b] w fun e w' => e = .returned (.bool true) ∧ Srvs S w' sg g d (upd dn i b) ls ∧ Only S w w' ∧ w'.heap.size = w.heap.size := by
  obtain ⟨v, h1, h2, h3, _⟩ := h.turn hi
  obtain ⟨c2, c3, f2, f3⟩ := h1.cells
  rw [hl] at c3
  have hc := hid (at_ok h1)
  have H := hid (And.intro (h3 b) (setS (w := w) (w' := w) h2 2 (.bool b) (Only.refl _ _)))
  clear h h1 h2 h3 hl
  go_enter Tryz.func14, Tryz.ntmps14
  go_wp2_with fail
  refine hc.out.mono ?_
  rintro e w' ⟨rfl, rfl⟩
  go_wp2_with fail
  go_ret
  exact ⟨rfl, H.out.1, H.out.2, by simp [World.setCell]⟩
theorem Lose_ok (h : Srvs S w sg g d dn ls) {i : Nat} (hi : i < 5) : Calls Tryz.prog 54 #[.pointer (some ⟨sg, 0, none⟩), .int .i64 i] w fun e w' => e = .returned (.bool true) ∧ Srvs S w' sg g d dn (upd ls i true) ∧ Only S w w' ∧ w'.heap.size = w.heap.size := by
  obtain ⟨v, h1, h2, _, h3⟩ := h.turn hi
  obtain ⟨c2, c3, f2, f3⟩ := h1.cells
  have hc := hid (at_ok h1)
  have H := hid (And.intro (h3 true) (setS (w := w) (w' := w) h2 3 (.bool true) (Only.refl _ _)))
  clear h h1 h2 h3
  go_enter Tryz.func54, Tryz.ntmps54
  go_wp2_with fail
  refine hc.out.mono ?_
  rintro e w' ⟨rfl, rfl⟩
  go_wp2_with fail
  go_ret
  exact ⟨rfl, H.out.1, H.out.2, by simp [World.setCell]⟩
theorem Len_ok (h : Srvs S w sg g d dn ls) : Calls Tryz.prog 124 #[.pointer (some ⟨sg, 0, none⟩)] w fun e w' => e = .returned (.int .i64 5) ∧ w = w' := by
  obtain ⟨r, c, cs, v, h1, h2, h3, h4, h5, h6⟩ := h
  have e0 : w.cell? ⟨sg, 0, none⟩ = some (.slice (some ⟨r, 0, none⟩) 5 c) := (h1.cell 0).trans rfl
  have hl := h1.lt
  clear h1 h2 h3 h4 h5 h6
  go_enter Tryz.func124, Tryz.ntmps124
  go_wp2_with fail
  go_ret
  exact ⟨rfl, rfl⟩
end
end Go.Proofs.YtopbojifllnckaaGreatDoor
