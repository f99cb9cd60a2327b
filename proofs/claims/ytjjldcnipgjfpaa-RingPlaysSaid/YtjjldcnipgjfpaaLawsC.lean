/- RingPlays: anything done to any row: each answer, how many there are, all in order: the walk of the law, for every input. -/
import Derived.Test.YtjjldcnipgjfpaaRef
import Derived.Deep.CutBlock
import Derived.Deep.RegionHeld3
import Derived.Deep.DeepCutAuto
namespace Go.Proofs.Ytjjldcnipgjfpaa
open Go.RowKit
attribute [local go_sem high] run_mxI run_mnI

theorem RingAt.keep {w w' : World} {br bl N : Nat} {L : List ByteArray} (h : RingAt w br bl N L) (hk : w'.heap = w.heap) : RingAt w' br bl N L := by
  obtain ⟨a, cs, h⟩ := h
  exact ⟨a, cs, by unfold Blk; rw [hk]; exact h.hd, by unfold Blk; rw [hk]; exact h.row, h.len, h.pos, h.top, h.at_, h.fit, h.say⟩

/-- What RingPlays keeps: the ring holds L, the reference's variable (at block bx) M. -/
structure PlayRel (w wr : World) (B br bl bx N : Nat) (A : Option Addr) (c : Nat) (L M : List ByteArray) : Prop where
  ring : RingAt wr br bl N L
  box : Blk wr bx 34 #[.int .i64 N, .slice A M.length c]
  own : wr.ownsRow B 9 1 (.slice A M.length c) (strs M).length (strs M)
  base : B ≤ wr.heap.size
  below : Below w.heap.size w wr
  hbr : w.heap.size ≤ br ∧ br < B
  hbl : w.heap.size ≤ bl ∧ bl < B
  hbx : w.heap.size ≤ bx ∧ bx < B
  nr : br ≠ bx
  nl : bl ≠ bx

section
variable {w wr w3 : World} {B br bl bx N : Nat} {A A' : Option Addr} {c c' : Nat} {L L' M M' : List ByteArray}
theorem PlayRel.alloc (h : PlayRel w wr B br bl bx N A c L M) (o : Obj) : PlayRel w (wr.alloc o) B br bl bx N A c L M :=
  ⟨h.ring.only (S := fun _ => False) ((Only.refl _ _).alloc o) id id, h.box.alloc o, h.own.alloc o, Nat.le_trans h.base (by simp), h.below.alloc h.below.size o, h.hbr, h.hbl, h.hbx, h.nr, h.nl⟩
theorem PlayRel.below_ (h : PlayRel w wr B br bl bx N A c L M) (hb : Below wr.heap.size wr w3) : PlayRel w w3 B br bl bx N A c L M :=
  ⟨h.ring.only (S := fun _ => False) (Only.of_below hb fun _ hk _ => hk) id id, h.box.below hb h.box.lt, own_keep h.own fun q _ hq => hb.block q hq, Nat.le_trans h.base hb.size, h.below.trans (hb.mono h.below.size), h.hbr, h.hbl, h.hbx, h.nr, h.nl⟩
theorem PlayRel.drewN (h : PlayRel w wr B br bl bx N A c L M) (n : Nat) : PlayRel w (wr.drewN n) B br bl bx N A c L M := h.below_ (below_drewN (Below.refl _ _) n)
/-- The ring has been called. -/
theorem PlayRel.play (h : PlayRel w wr B br bl bx N A c L M) (hr : RingAt w3 br bl N L') (ho : Only (fun k => k = br ∨ k = bl) wr w3) : PlayRel w w3 B br bl bx N A c L' M :=
  have hS : ∀ k, (k = br ∨ k = bl) → k < B := fun k hk => by have := h.hbr; have := h.hbl; rcases hk with rfl | rfl <;> omega
  ⟨hr, h.box.only ho (fun e => by rcases e with e | e; exact h.nr e.symm; exact h.nl e.symm), own_only h.own ho hS, Nat.le_trans h.base ho.size, below_only h.below h.hbr.1 h.hbl.1 ho, h.hbr, h.hbl, h.hbx, h.nr, h.nl⟩
/-- The reference's variable has been set anew. -/
theorem PlayRel.set_ (h : PlayRel w wr B br bl bx N A c L M) (hown : wr.ownsRow B 9 1 (.slice A' M'.length c') (strs M').length (strs M')) :
    PlayRel w ((wr.setCell ⟨bx, 0, none⟩ (.int .i64 N)).setCell ⟨bx, 1, none⟩ (.slice A' M'.length c')) B br bl bx N A' c' L M' := by
  have ho : Only (fun k => k = bx) wr ((wr.setCell ⟨bx, 0, none⟩ (.int .i64 N)).setCell ⟨bx, 1, none⟩ (.slice A' M'.length c')) := ((Only.refl (fun k => k = bx) wr).setCell (p := ⟨bx, 0, none⟩) (.inl rfl) _).setCell (p := ⟨bx, 1, none⟩) (.inl rfl) _
  refine ⟨h.ring.only ho h.nr h.nl, ?_, own_only hown ho fun k hk => by have := h.hbx; omega, Nat.le_trans h.base ho.size, ?_, h.hbr, h.hbl, h.hbx, h.nr, h.nl⟩
  · have := (h.box.set_ 0 (.int .i64 N)).set_ 1 (.slice A' M'.length c')
    simpa using this
  · exact (h.below.setCell (p := ⟨bx, 0, none⟩) h.hbx.1 _).setCell (p := ⟨bx, 1, none⟩) h.hbx.1 _
theorem PlayRel.holds (h : PlayRel w wr B br bl bx N A c L M) : Holds wr wr.heap.size A (strs M) :=
  Holds.of_own (n := (strs M).length) (c := c) (by have := h.own; rw [strs_length]; rw [strs_length] at this; exact this)

theorem PlayRel.cap_ (h : PlayRel w wr B br bl bx N A c L M) : M.length ≤ c := by
  rcases h.own.2 with ⟨h1, h2⟩ | ⟨g, cap, cur, hv, _, _, hn, _⟩
  · rw [strs_length] at h2; omega
  · injection hv with _ h1 h2; omega

theorem PlayRel.e0_ (h : PlayRel w wr B br bl bx N A c L M) : wr.cell? ⟨bx, 0, none⟩ = some (.int .i64 N) := by rw [h.box.cell]; rfl
theorem PlayRel.e1_ (h : PlayRel w wr B br bl bx N A c L M) : wr.cell? ⟨bx, 1, none⟩ = some (.slice A M.length c) := by rw [h.box.cell]; rfl
theorem own_holds {w : World} {B : Nat} {A : Option Addr} {c : Nat} {L : List ByteArray} (h : w.ownsRow B 9 1 (.slice A L.length c) (strs L).length (strs L)) : Holds w w.heap.size A (strs L) :=
  Holds.of_own (n := (strs L).length) (c := c) (by rw [strs_length]; rw [strs_length] at h; exact h)

/-- .. and the round's deed lies at block bd. -/
structure PlayD (w wr : World) (B br bl bx N : Nat) (A : Option Addr) (c : Nat) (L M : List ByteArray) (bd : Nat) (cs : Array Value) : Prop where
  rel : PlayRel w wr B br bl bx N A c L M
  deed : Blk wr bd 37 cs
  hbd : B ≤ bd
variable {bd : Nat} {cs : Array Value}
theorem PlayD.alloc (h : PlayD w wr B br bl bx N A c L M bd cs) (o : Obj) : PlayD w (wr.alloc o) B br bl bx N A c L M bd cs := ⟨h.rel.alloc o, h.deed.alloc o, h.hbd⟩
theorem PlayD.below_ (h : PlayD w wr B br bl bx N A c L M bd cs) (hb : Below wr.heap.size wr w3) : PlayD w w3 B br bl bx N A c L M bd cs := ⟨h.rel.below_ hb, h.deed.below hb h.deed.lt, h.hbd⟩
theorem PlayD.play (h : PlayD w wr B br bl bx N A c L M bd cs) (hr : RingAt w3 br bl N L') (ho : Only (fun k => k = br ∨ k = bl) wr w3) : PlayD w w3 B br bl bx N A c L' M bd cs :=
  ⟨h.rel.play hr ho, h.deed.only ho (fun e => by have := h.rel.hbr; have := h.rel.hbl; have := h.hbd; rcases e with e | e <;> omega), h.hbd⟩
theorem PlayD.set_ (h : PlayD w wr B br bl bx N A c L M bd cs) (hown : wr.ownsRow B 9 1 (.slice A' M'.length c') (strs M').length (strs M')) :
    PlayD w ((wr.setCell ⟨bx, 0, none⟩ (.int .i64 N)).setCell ⟨bx, 1, none⟩ (.slice A' M'.length c')) B br bl bx N A' c' L M' bd cs :=
  ⟨h.rel.set_ hown, (h.deed.far (p := ⟨bx, 0, none⟩) (by have := h.rel.hbx; have := h.hbd; show bd ≠ bx; omega) _).far (p := ⟨bx, 1, none⟩) (by have := h.rel.hbx; have := h.hbd; show bd ≠ bx; omega) _, h.hbd⟩
theorem PlayD.e0 (h : PlayD w wr B br bl bx N A c L M bd cs) : wr.cell? ⟨bx, 0, none⟩ = some (.int .i64 N) := by rw [h.rel.box.cell]; rfl
theorem PlayD.e1 (h : PlayD w wr B br bl bx N A c L M bd cs) : wr.cell? ⟨bx, 1, none⟩ = some (.slice A M.length c) := by rw [h.rel.box.cell]; rfl
theorem PlayD.d0 {x y z : Value} (h : PlayD w wr B br bl bx N A c L M bd #[x, y, z]) : wr.cell? ⟨bd, 0, none⟩ = some x := by rw [h.deed.cell]; rfl
theorem PlayD.d1 {x y z : Value} (h : PlayD w wr B br bl bx N A c L M bd #[x, y, z]) : wr.cell? ⟨bd, 1, none⟩ = some y := by rw [h.deed.cell]; rfl
theorem PlayD.d2 {x y z : Value} (h : PlayD w wr B br bl bx N A c L M bd #[x, y, z]) : wr.cell? ⟨bd, 2, none⟩ = some z := by rw [h.deed.cell]; rfl
end

set_option maxRecDepth 100000 in
set_option maxHeartbeats 2000000 in
theorem plays_walk (n : Int) {A : Option Addr} {len cap : Nat} (w : World) (h : ∃ l : List Deed, l.length = len ∧ len ≤ maxLen ∧ DeedsAt w w.heap.size A l) :
    Calls Try.prog 4 #[.int .i64 n, .slice A len cap] w fun e w' => e = .returned (.bool true) ∧ Below w.heap.size w w' := by
  obtain ⟨l, rfl, hmax, hd⟩ := h
  unfold maxLen at hmax
  have HD := hid hd
  clear hd
  obtain ⟨N, hN, hN1, hN2⟩ := most_nat n
  have HN := hid hN
  by_cases hfew : (decide (l.length ≤ 150) && l.all fun d => decide (d.text.size ≤ 70000)) = true
  · have hl : l.length ≤ 150 := by simp at hfew; exact hfew.1
    have HF := hid hfew
    clear hfew hmax
    go_enter Try.func4, Try.ntmps4
    go_wp2_with fail
    refine (few_any HD (by omega)).mono ?_
    rintro e w1 ⟨rfl, rfl⟩
    rw [HF.out]
    go_wp2_with fail
    refine (new_at HN.out).mono ?_
    rintro e w1 ⟨br, bl, rfl, hbr, hbl, hr, hb⟩
    have R1 := hid hr
    have B1 := hid hb
    have HR := hid hbr
    have HL := hid hbl
    clear hr hb hbr hbl
    go_wp2_with fail
    refine (refnew_any HN.out).mono ?_
    rintro e w2 ⟨rfl, hb⟩
    have B2 := hid hb
    have hz2 := hid hb.size
    clear hb hN
    go_wp2_with fail
    obtain ⟨B, hB⟩ : ∃ B, B = w2.heap.size + 1 := ⟨_, rfl⟩
    have R0 : PlayRel w (w2.alloc (.cells #[.int .i64 N, .slice none 0 0] 34)) B br bl w2.heap.size N none 0 [] [] := by
      have hr2 := R1.out.only (S := fun _ => False) (Only.of_below B2.out fun _ hk _ => hk) id id
      have h1 := hr2.lt
      have h3 := B1.out.size
      have h4 := hz2.out
      refine ⟨hr2.only (S := fun _ => False) ((Only.refl _ _).alloc _) id id, Blk.new _ _ _, World.ownsRow_nil _ _ _ _, by simp; omega, ((B1.out.trans (B2.out.mono h3)).alloc (by omega) _), ⟨HR.out, by omega⟩, ⟨HL.out, by omega⟩, ⟨by omega, by omega⟩, by omega, by omega⟩
    have HR0 := hid R0
    clear R0 hB
    obtain ⟨bx, hbx⟩ : ∃ bx, bx = w2.heap.size := ⟨_, rfl⟩
    rw [← hbx] at HR0 ⊢
    have HBX := hid hbx
    clear hbx
    go_loopw [7] (fun i wr => ∃ (k : Nat) (A' : Option Addr) (c' : Nat) (L : List ByteArray), k ≤ l.length ∧ i = .int .i64 k ∧ PlayRel w wr B br bl bx N A' c' L L) (fun i _ => l.length - (intOf i).toNat)
    case atStart => exact ⟨0, none, 0, [], by omega, rfl, HR0.out⟩
    case round =>
      obtain ⟨k, A', c', L, hk, rfl, hrel⟩ := hrel
      have R2 := hid hrel
      have hLN := hrel.ring.top.2.2
      clear hrel
      by_cases hkl : k < l.length
      · obtain ⟨ad, rfl, hb, hc⟩ := (HD.out.below R2.out.below) (by omega)
        obtain ⟨g0, g1, g2⟩ := (hc k hkl)
        obtain ⟨d, hd⟩ : ∃ d, d = l.getD k default := ⟨_, rfl⟩
        rw [← hd] at g0 g1 g2
        clear hc hd hb
        have hD0 : PlayD w (wr.alloc (.cells #[.int .i64 d.kind, .int .i64 d.n, .string d.text] 37)) B br bl bx N A' c' L L wr.heap.size #[.int .i64 d.kind, .int .i64 d.n, .string d.text] := ⟨R2.out.alloc _, Blk.new _ _ _, R2.out.base⟩
        have D0 := hid hD0
        clear hD0
        go_upto_block 2 with fail
        obtain ⟨wd, hwd⟩ : ∃ wd, wd = wr.alloc (.cells #[.int .i64 d.kind, .int .i64 d.n, .string d.text] 37) := ⟨_, rfl⟩
        obtain ⟨bd, hbd⟩ : ∃ bd, bd = wr.heap.size := ⟨_, rfl⟩
        rw [← hwd, ← hbd] at D0
        rw [← hwd, ← hbd]
        clear hwd hbd g0 g1 g2
        go_cut [8] (fun v8 wc => v8 = .bool true ∧ ∃ A3 c3 L3, PlayRel w wc B br bl bx N A3 c3 L3 L3)
        case first =>
          have e0 := D0.out.e0
          have e1 := D0.out.e1
          have d1 := D0.out.d1
          have d2 := D0.out.d2
          by_cases hk0 : d.kind = 0
          · have hkb : (d.kind == 0) = true := by simp [hk0]
            clear hk0
            by_cases hput : L.length < N ∧ d.text.size ≤ 65536
            · obtain ⟨hp1, hp2⟩ := hput
              go_wp2_with fail
              refine (refput_yes hp1 hp2 (by omega) (hid D0.out.rel.holds)).mono ?_
              rintro e w3 ⟨A4, c4, rfl, hown, hb⟩
              obtain ⟨M4, hM4⟩ : ∃ M4, M4 = L ++ [d.text] := ⟨_, rfl⟩
              rw [← hM4] at hown ⊢
              have HM4 := hid hM4
              clear hM4
              have D3 := hid (D0.out.below_ hb)
              have O3 := hid (own_lower hown (Nat.le_trans D0.out.hbd (Nat.le_of_lt D0.out.deed.lt)))
              clear hown hb e0 e1 d1 d2
              have D5 := hid ((D3.out.alloc (.cells #[.int .i64 N, .slice A4 (M4).length c4] 34)).set_ (O3.out.alloc _))
              have e0 := fun o => (D3.out.alloc o).e0
              have e1 := fun o => (D3.out.alloc o).e1
              have d1 := fun o => (D3.out.alloc o).d1
              have d2 := fun o => (D3.out.alloc o).d2
              have f0 := fun o => (D3.out.alloc o).rel.box.frozen 0
              have f1 := fun o => (D3.out.alloc o).rel.box.frozen 1
              have n1 : bd ≠ bx := by have := D3.out.hbd; have := D3.out.rel.hbx; omega
              go_wp2_with fail
              refine (put_at_yes D5.out.rel.ring hp1 hp2).mono ?_
              rintro e w6 ⟨rfl, hr, ho⟩
              have D6 := hid (D5.out.play hr ho)
              clear hr ho
              go_wp2_with fail
              go_meet
              case rel => exact ⟨rfl, _, _, _, (by have h6 := D6.out.rel; rw [← HM4.out] at h6; exact h6)⟩
            · go_wp2_with fail
              refine (refput_no (L := L) (by omega)).mono ?_
              rintro e w3 ⟨rfl, hb⟩
              have D3 := hid (D0.out.below_ hb)
              clear hb e0 e1 d1 d2
              have D5 := hid ((D3.out.alloc (.cells #[.int .i64 N, .slice A' (L).length c'] 34)).set_ (D3.out.rel.own.alloc _))
              have e0 := fun o => (D3.out.alloc o).e0
              have e1 := fun o => (D3.out.alloc o).e1
              have d1 := fun o => (D3.out.alloc o).d1
              have d2 := fun o => (D3.out.alloc o).d2
              have f0 := fun o => (D3.out.alloc o).rel.box.frozen 0
              have f1 := fun o => (D3.out.alloc o).rel.box.frozen 1
              have n1 : bd ≠ bx := by have := D3.out.hbd; have := D3.out.rel.hbx; omega
              go_wp2_with fail
              refine (put_at_no D5.out.rel.ring (by omega)).mono ?_
              rintro e w6 ⟨rfl, hr, ho⟩
              have D6 := hid (D5.out.play hr ho)
              clear hr ho
              go_wp2_with fail
              go_meet
              case rel => exact ⟨rfl, _, _, _, D6.out.rel⟩
          · have hkb : (d.kind == 0) = false := by simp [hk0]
            clear hk0
            by_cases hk1 : d.kind = 1
            · have hkb1 : (d.kind == 1) = true := by simp [hk1]
              clear hk1
              cases L with
              | nil =>
                go_wp2_with fail
                refine (refpeek_no (n := 0) (.inr (by omega))).mono ?_
                rintro e w3 ⟨rfl, hb⟩
                have D3 := hid (D0.out.below_ hb)
                clear hb e0 e1 d1 d2
                have e0 := D3.out.e0
                have e1 := D3.out.e1
                go_wp2_with fail
                refine (refdrop_any (L := []) (m := 0) (by decide) (by simp) (by simp) (hid D3.out.rel.holds)).mono ?_
                rintro e w4 ⟨A4, c4, rfl, hown, hb⟩
                obtain ⟨M4, hM4⟩ : ∃ M4, M4 = ([] : List ByteArray).drop 0 := ⟨_, rfl⟩
                rw [← hM4] at hown ⊢
                have HM4 := hid hM4
                clear hM4
                have D4 := hid (D3.out.below_ hb)
                have O4 := hid (own_lower hown (Nat.le_trans D3.out.hbd (Nat.le_of_lt D3.out.deed.lt)))
                clear hown hb e0 e1
                have D5 := hid ((D4.out.alloc (.cells #[.int .i64 N, .slice A4 (M4).length c4] 34)).set_ (O4.out.alloc _))
                have e0 := fun o => (D4.out.alloc o).e0
                have e1 := fun o => (D4.out.alloc o).e1
                have d1 := fun o => (D4.out.alloc o).d1
                have d2 := fun o => (D4.out.alloc o).d2
                have f0 := fun o => (D4.out.alloc o).rel.box.frozen 0
                have f1 := fun o => (D4.out.alloc o).rel.box.frozen 1
                have n1 : bd ≠ bx := by have := D4.out.hbd; have := D4.out.rel.hbx; omega
                go_wp2_with fail
                refine (take_at_no D5.out.rel.ring).mono ?_
                rintro e w6 ⟨rfl, rfl⟩
                go_wp2_with fail
                go_meet
                case rel => exact ⟨rfl, _, _, _, (by have h6 := D5.out.rel; rw [show ([] : List ByteArray) = M4 from HM4.out.symm] at h6; exact h6)⟩
              | cons s L' =>
                obtain ⟨ad4, s', rfl, hc4, hs4⟩ := holds_at D0.out.rel.holds (k := 0) (by simp)
                have hs5 : s' = s := by simpa using hs4.symm
                subst hs5
                have hm1 := hid (show mnI (mxI 1 0) ((s' :: L').length : Int) = (1 : Nat) by unfold mnI mxI; simp only [List.length_cons]; split <;> split <;> omega)
                clear hs4
                go_wp2_with fail
                refine (refpeek_yes (i := 0) (by simp) hc4).mono ?_
                rintro e w3 ⟨rfl, hb⟩
                have D3 := hid (D0.out.below_ hb)
                clear hb e0 e1 d1 d2 hc4
                have e0 := D3.out.e0
                have e1 := D3.out.e1
                go_wp2_with fail
                refine (refdrop_any (L := s' :: L') (m := 1) hm1.out (by omega) D3.out.rel.cap_ (hid D3.out.rel.holds)).mono ?_
                rintro e w4 ⟨A4, c4, rfl, hown, hb⟩
                obtain ⟨M4, hM4⟩ : ∃ M4, M4 = (s' :: L').drop 1 := ⟨_, rfl⟩
                rw [← hM4] at hown ⊢
                have HM4 := hid hM4
                clear hM4
                have D4 := hid (D3.out.below_ hb)
                have O4 := hid (own_lower hown (Nat.le_trans D3.out.hbd (Nat.le_of_lt D3.out.deed.lt)))
                clear hown hb e0 e1
                have D5 := hid ((D4.out.alloc (.cells #[.int .i64 N, .slice A4 (M4).length c4] 34)).set_ (O4.out.alloc _))
                have e0 := fun o => (D4.out.alloc o).e0
                have e1 := fun o => (D4.out.alloc o).e1
                have d1 := fun o => (D4.out.alloc o).d1
                have d2 := fun o => (D4.out.alloc o).d2
                have f0 := fun o => (D4.out.alloc o).rel.box.frozen 0
                have f1 := fun o => (D4.out.alloc o).rel.box.frozen 1
                have n1 : bd ≠ bx := by have := D4.out.hbd; have := D4.out.rel.hbx; omega
                go_wp2_with fail
                refine (take_yes (hid D5.out.rel.ring)).mono ?_
                rintro e w6 ⟨rfl, hr, ho⟩
                have D6 := hid (D5.out.play hr ho)
                clear hr ho
                go_wp2_with fail
                go_meet
                case rel => exact ⟨rfl, _, _, _, (by have h6 := D6.out.rel; rw [show L' = M4 from HM4.out.symm] at h6; exact h6)⟩
            · have hkb1 : (d.kind == 1) = false := by simp [hk1]
              clear hk1
              by_cases hk2 : d.kind = 2
              · have hkb2 : (d.kind == 2) = true := by simp [hk2]
                clear hk2
                obtain ⟨m, hm⟩ : ∃ m : Nat, mnI (mxI d.n 0) (L.length : Int) = m := ⟨(mnI (mxI d.n 0) (L.length : Int)).toNat, by unfold mnI mxI; split <;> split <;> omega⟩
                have HM := hid hm
                clear hm
                go_wp2_with fail
                refine (refdrop_any (L := L) HM.out (by omega) D0.out.rel.cap_ (hid D0.out.rel.holds)).mono ?_
                rintro e w4 ⟨A4, c4, rfl, hown, hb⟩
                obtain ⟨M4, hM4⟩ : ∃ M4, M4 = L.drop m := ⟨_, rfl⟩
                rw [← hM4] at hown ⊢
                have HM4 := hid hM4
                clear hM4
                have D4 := hid (D0.out.below_ hb)
                have O4 := hid (own_lower hown (Nat.le_trans D0.out.hbd (Nat.le_of_lt D0.out.deed.lt)))
                clear hown hb e0 e1 d1 d2
                have D5 := hid ((D4.out.alloc (.cells #[.int .i64 N, .slice A4 (M4).length c4] 34)).set_ (O4.out.alloc _))
                have e0 := fun o => (D4.out.alloc o).e0
                have e1 := fun o => (D4.out.alloc o).e1
                have d1 := fun o => (D4.out.alloc o).d1
                have d2 := fun o => (D4.out.alloc o).d2
                have f0 := fun o => (D4.out.alloc o).rel.box.frozen 0
                have f1 := fun o => (D4.out.alloc o).rel.box.frozen 1
                have n1 : bd ≠ bx := by have := D4.out.hbd; have := D4.out.rel.hbx; omega
                go_wp2_with fail
                refine (drop_at D5.out.rel.ring HM.out).mono ?_
                rintro e w6 ⟨rfl, hr, ho⟩
                have D6 := hid (D5.out.play hr ho)
                clear hr ho
                go_wp2_with fail
                go_meet
                case rel => exact ⟨rfl, _, _, _, (by have h6 := D6.out.rel; rw [← HM4.out] at h6; exact h6)⟩
              · have hkb2 : (d.kind == 2) = false := by simp [hk2]
                clear hk2
                by_cases hk3 : d.kind = 3
                · have hkb3 : (d.kind == 3) = true := by simp [hk3]
                  clear hk3
                  by_cases hin : 0 ≤ d.n ∧ d.n < L.length
                  · obtain ⟨p, hp⟩ : ∃ p : Nat, d.n = p := ⟨d.n.toNat, by omega⟩
                    have hpL : p < L.length := by omega
                    obtain ⟨ad4, s', rfl, hc4, hs4⟩ := holds_at D0.out.rel.holds hpL
                    have HS4 := hid hs4
                    rw [hp] at d1 D0
                    clear hs4 hin hp
                    go_wp2_with fail
                    refine (refpeek_yes (i := p) (by omega) hc4).mono ?_
                    rintro e w3 ⟨rfl, hb⟩
                    clear hc4
                    have D3 := hid (D0.out.below_ hb)
                    clear hb e0 e1 d1 d2
                    have d1 := D3.out.d1
                    go_wp2_with fail
                    refine (peek_at_yes D3.out.rel.ring HS4.out).mono ?_
                    rintro e w6 ⟨rfl, j, rfl⟩
                    go_wp2_with fail
                    go_meet
                    case rel => exact ⟨rfl, _, _, _, D3.out.rel.drewN j⟩
                  · go_wp2_with fail
                    refine (refpeek_no (n := L.length) (by omega)).mono ?_
                    rintro e w3 ⟨rfl, hb⟩
                    have D3 := hid (D0.out.below_ hb)
                    clear hb e0 e1 d1 d2
                    have d1 := D3.out.d1
                    go_wp2_with fail
                    refine (peek_at_no D3.out.rel.ring (by omega)).mono ?_
                    rintro e w6 ⟨rfl, j, rfl⟩
                    go_wp2_with fail
                    go_meet
                    case rel => exact ⟨rfl, _, _, _, D3.out.rel.drewN j⟩
                · have hkb3 : (d.kind == 3) = false := by simp [hk3]
                  clear hk3
                  go_wp2_with fail
                  go_meet
                  case rel => exact ⟨rfl, _, _, _, D0.out.rel⟩
        case rest =>
          obtain ⟨rfl, A3, c3, L3, hrel⟩ := hcut
          have R3 := hid hrel
          clear hrel
          have e0 : wc.cell? ⟨bx, 0, none⟩ = some (.int .i64 N) := by rw [R3.out.box.cell]; rfl
          have e1 : wc.cell? ⟨bx, 1, none⟩ = some (.slice A3 L3.length c3) := by rw [R3.out.box.cell]; rfl
          go_wp2_with fail
          have hsub : IntKind.i64.wrap ((N : Int) - (L3.length : Int)) = (N : Int) - (L3.length : Int) := by rw [IntKind.wrap_i64]; have := R3.out.ring.top; omega
          have hL3 := R3.out.ring.top.2.2
          go_region_held3 (fun w' => w'.cell? ⟨bx, 0, none⟩ = some (.int .i64 N) ∧ w'.cell? ⟨bx, 1, none⟩ = some (.slice A3 L3.length c3)) (first | exact ⟨e0, e1⟩ | exact ⟨e2, e3⟩) (first | (go_at_call 10; refine (len_at (RingAt.keep R3.out.ring (by rfl))).mono ?_; rintro e w' ⟨rfl, rfl⟩) | (go_at_call 11; refine (room_at (RingAt.keep R3.out.ring (by rfl))).mono ?_; rintro e w' ⟨rfl, j, rfl⟩) | (go_at_call 21; refine (all_at (RingAt.keep R3.out.ring (by rfl))).mono ?_; rintro e w' ⟨v, rfl, hown, hb⟩; obtain ⟨A9, c9, hv9⟩ := own_form hown; rw [strs_length] at hv9; subst hv9; have H9 := hid (own_holds hown); have R9 := hid ((R3.out.drewN _).below_ hb); have e2 := R9.out.e0_; have e3 := R9.out.e1_; have H3 := hid R9.out.holds; clear hown hb) | (go_at_call 20; refine (texts_any (x := L3) (y := L3) H9 H3 (by omega)).mono ?_; rintro e w' ⟨rfl, q, rfl⟩))
          go_wp2_with fail
          go_roundw
          case rel => exact ⟨k + 1, A3, c3, L3, by omega, by go_num, R9.out.drewN q⟩
          case measure => simp [intOf]; omega
      · obtain rfl : k = l.length := by omega
        go_wp2_with fail
        refine (awake_any _).mono ?_
        rintro e w6 ⟨rfl, hb⟩
        have B6 := hid hb
        clear hb
        go_wp2_with fail
        go_ret
        exact ⟨rfl, R2.out.below.trans (B6.out.mono R2.out.below.size)⟩
  · have hfew' : (decide (l.length ≤ 150) && l.all fun d => decide (d.text.size ≤ 70000)) = false := by simpa using hfew
    have HF := hid hfew'
    clear hfew hfew'
    go_enter Try.func4, Try.ntmps4
    go_wp2_with fail
    refine (few_any HD hmax).mono ?_
    rintro e w1 ⟨rfl, rfl⟩
    rw [HF.out]
    go_wp2_with fail
    refine (awake_any _).mono ?_
    rintro e w6 ⟨rfl, hb⟩
    have B6 := hid hb
    clear hb
    go_wp2_with fail
    go_ret
    exact ⟨rfl, B6.out⟩

end Go.Proofs.Ytjjldcnipgjfpaa
