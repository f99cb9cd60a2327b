/- fsck: right. rebuild: New, epoch, Fail, Start. rebuild: place. Sorting places that are in order: cmp.Compare, cmp.Or, bits.Len. -/
import Derived.KernelRfl
import Derived.Test.YtopbojifllnckaaGreatDoorG39
import Derived.Test.YtopbojifllnckaaGreatDoorG32
import Derived.Test.YtopbojifllnckaaGreatDoorG16
namespace Go.Proofs.YtopbojifllnckaaGreatDoor
open Go.RowKit
attribute [local irreducible] wpQuiet
/-- A row of numbers beside a stripe's six cells. -/
theorem own6 {w : World} {base z : Nat} {v : Value} {n : Nat} {xs : List Value} {cs : Array Value} (h : w.ownsRow base 3 1 v n xs) (hz : Blk w z 37 cs) (x0 x1 x2 x3 x4 x5 : Value) :
    ((((((w.setCell ⟨z, 0, none⟩ x0).setCell ⟨z, 1, none⟩ x1).setCell ⟨z, 2, none⟩ x2).setCell ⟨z, 3, none⟩ x3).setCell ⟨z, 4, none⟩ x4).setCell ⟨z, 5, none⟩ x5).ownsRow base 3 1 v n xs := by
  refine ⟨h.1, ?_⟩
  rcases h.2 with h1 | ⟨g, cap, cur, h1, h2, h3, h4⟩
  · exact .inl h1
  · have hne : g ≠ z := Blk.ne_ (w := w) (t := 3) h3 hz (by decide)
    refine .inr ⟨g, cap, cur, h1, h2, ?_, h4⟩
    exact (Below.heap_setCell _ ⟨z, 5, none⟩ x5 g hne).trans ((Below.heap_setCell _ ⟨z, 4, none⟩ x4 g hne).trans ((Below.heap_setCell _ ⟨z, 3, none⟩ x3 g hne).trans ((Below.heap_setCell _ ⟨z, 2, none⟩ x2 g hne).trans ((Below.heap_setCell _ ⟨z, 1, none⟩ x1 g hne).trans ((Below.heap_setCell w ⟨z, 0, none⟩ x0 g hne).trans h3)))))
section
variable {B : Nat} {T T' : Nat → Nat} {w w' : World} {x : X}
set_option maxRecDepth 100000 in
set_option maxHeartbeats 3200000 in
theorem right_ok (h : Arr B T w x) {j : Nat} {t : SS} (hj : x.L[j]? = some t) (hst : t.st = 2) (ho : OkS t) (hj4 : j < 4096) {i : Nat} (hi : i < 4) :
    Calls Tryz.prog 126 #[.pointer (some ⟨x.a, 0, none⟩), .int .i64 (onN t j i), .agg #[.int .i64 j, .int .i64 i]] w fun e w' => e = .returned (.bool true) ∧ Below w.heap.size w w' := by
  obtain ⟨a, ha⟩ : ∃ a, a = x.a := ⟨_, rfl⟩
  obtain ⟨gm, hgm⟩ : ∃ gm, gm = x.gm := ⟨_, rfl⟩
  obtain ⟨n, hn⟩ : ∃ n, n = onN t j i := ⟨_, rfl⟩
  obtain ⟨ln, hln⟩ : ∃ ln, ln = t.ln := ⟨_, rfl⟩
  obtain ⟨W, hW⟩ : ∃ W, W = w.alloc (.cells #[.int .i64 j, .int .i64 i] 122) := ⟨_, rfl⟩
  obtain ⟨pb, hpb⟩ : ∃ pb, pb = w.heap.size := ⟨_, rfl⟩
  have hb0 : Below w.heap.size w W := by rw [hW]; exact (Below.refl _ _).alloc (Nat.le_refl _) _
  have hP : Blk W pb 122 #[.int .i64 j, .int .i64 i] := by rw [hW, hpb]; exact Blk.new w 122 _
  have p0 : W.cell? ⟨pb, 0, none⟩ = some (.int .i64 j) := (hP.cell 0).trans rfl
  have hpl := hP.lt
  have hmanC : Hid (∀ W2, Below W.heap.size W W2 → Calls Tryz.prog 60 #[.pointer (some ⟨a, 0, none⟩)] W2 fun e w' => e = .returned (.pointer (some ⟨gm, 0, none⟩)) ∧ W2 = w') := by
    show ∀ W2, _
    intro W2 hb2
    rw [ha, hgm]
    exact aMan (h.below (hb0.trans (hb2.mono hb0.size)))
  have hstrC : Hid (∀ W2, Below W.heap.size W W2 → Calls Tryz.prog 11 #[.pointer (some ⟨gm, 0, none⟩), .int .i64 j] W2 fun e w' => ∃ (q c' : Nat), e = .returned (.tuple #[.agg #[.int .i64 j, .int .i64 2, .int .i64 3, .int .i64 1, .int .i64 ln, .slice (some ⟨q, 0, none⟩) 4 c'], .bool true]) ∧ pb < w'.heap.size ∧ (w'.cell? ⟨pb, 0, none⟩ = some (.int .i64 j)) ∧ Hid (Below W.heap.size W w' ∧ w'.ownsRow W.heap.size 3 1 (.slice (some ⟨q, 0, none⟩) 4 c') 4 (nums t.xs) ∧ ∀ k t cs, Blk W2 k t cs → k < W2.heap.size → Blk w' k t cs)) := by
    show ∀ W2, _
    intro W2 hb2
    rw [hgm, hln]
    refine (aStripe (h.below (hb0.trans (hb2.mono hb0.size))) hj).mono ?_
    rintro e w' ⟨q, c', rfl, hq, hbb⟩
    have hP2 := (hP.below hb2 hP.lt).below hbb (hP.below hb2 hP.lt).lt
    rw [hst]
    exact ⟨q, c', rfl, hP2.lt, (hP2.cell 0).trans rfl, hb2.trans (hbb.mono hb2.size), own_lower hq hb2.size, fun k t cs hB hk => hB.below hbb hk⟩
  have H := hid (And.intro ho (And.intro hj4 (And.intro hn (And.intro hb0 hP))))
  rw [← ha, ← hn]
  clear h hj hst ho hj4 hn ha hgm hln hP hb0
  have hne2 : pb ≠ W.heap.size := Nat.ne_of_lt hpl
  have hW0 : Hid (Below W.heap.size W W.drew) := (Below.refl _ _).drew
  have hW1 : Hid (Below W.heap.size W (W.alloc (.cells #[.int .i64 0, .int .i64 0, .int .i64 0, .int .i64 0, .int .i64 0, .slice none 0 0] 37)).drew) := ((Below.refl _ _).alloc (Nat.le_refl _) _).drew
  go_enter Tryz.func126, Tryz.ntmps126
  go_upto_region 1 with (fail)
  rw [← hW, ← hpb]
  clear hW hpb
  go_cut [7, 8] (fun s7 s8 wx => ∃ (z q c' : Nat), s7 = .pointer (some ⟨z, 0, none⟩) ∧ s8 = .bool true ∧ Hid (W.heap.size ≤ z ∧ Blk wx z 37 #[.int .i64 j, .int .i64 2, .int .i64 3, .int .i64 1, .int .i64 ln, .slice (some ⟨q, 0, none⟩) 4 c'] ∧ Below W.heap.size W wx ∧ wx.ownsRow W.heap.size 3 1 (.slice (some ⟨q, 0, none⟩) 4 c') 4 (nums t.xs)))
  case first =>
    go_region_held3 (fun w' => w'.cell? ⟨pb, 0, none⟩ = some (.int .i64 j)) (first | (with_reducible exact hS) | (with_reducible exact p0) | (with_reducible exact cell6_ hne2 _ _ _ _ _ _ hS) | (with_reducible exact cellAl_ hbl' _ hS) | (with_reducible exact cellAl_ hpl _ p0) | go_keep) ((first
      | (go_at_call 60; first
        | (refine (hmanC.out _ hW0.out).mono ?_; rintro e0' w' ⟨rfl, rfl⟩)
        | (refine (hmanC.out _ hW1.out).mono ?_; rintro e0' w' ⟨rfl, rfl⟩))
      | (go_at_call 11; first
        | (refine (hstrC.out _ hW0.out).mono ?_; rintro e0' w' ⟨q, c', rfl, hbl', hS, hx⟩)
        | (refine (hstrC.out _ hW1.out).mono ?_; rintro e0' w' ⟨q, c', rfl, hbl', hS, hx⟩; have hZ := hx.out.2.2 W.heap.size 37 _ (Blk.new W 37 #[.int .i64 0, .int .i64 0, .int .i64 0, .int .i64 0, .int .i64 0, .slice none 0 0]) (by simp); have z0 : w'.cell? ⟨W.heap.size, 0, none⟩ = some (.int .i64 0) := (hZ.cell 0).trans rfl; have z1 : w'.cell? ⟨W.heap.size, 1, none⟩ = some (.int .i64 0) := (hZ.cell 1).trans rfl; have z2 : w'.cell? ⟨W.heap.size, 2, none⟩ = some (.int .i64 0) := (hZ.cell 2).trans rfl; have z3 : w'.cell? ⟨W.heap.size, 3, none⟩ = some (.int .i64 0) := (hZ.cell 3).trans rfl; have z4 : w'.cell? ⟨W.heap.size, 4, none⟩ = some (.int .i64 0) := (hZ.cell 4).trans rfl; have z5 : w'.cell? ⟨W.heap.size, 5, none⟩ = some (.slice none 0 0) := (hZ.cell 5).trans rfl; have v0 := hZ.frozen 0; have v1 := hZ.frozen 1; have v2 := hZ.frozen 2; have v3 := hZ.frozen 3; have v4 := hZ.frozen 4; have v5 := hZ.frozen 5))))
    · have hbb0 := hid (And.intro (hx.out.1.alloc hx.out.1.size (.cells #[.int .i64 j, .int .i64 2, .int .i64 3, .int .i64 1, .int .i64 ln, .slice (some ⟨q, 0, none⟩) 4 c'] 37)) (hx.out.2.1.alloc (.cells #[.int .i64 j, .int .i64 2, .int .i64 3, .int .i64 1, .int .i64 ln, .slice (some ⟨q, 0, none⟩) 4 c'] 37)))
      have hz0 := hid hx.out.1.size
      clear hmanC hstrC hS hx
      go_wp2_with fail
      go_meet
      exact ⟨_, q, c', rfl, rfl, hz0.out, Blk.new w' 37 _, hbb0.out.1, hbb0.out.2⟩
    all_goals
      have hZ5 := hid (((((((hx.out.2.2 W.heap.size 37 _ (Blk.new W 37 #[.int .i64 0, .int .i64 0, .int .i64 0, .int .i64 0, .int .i64 0, .slice none 0 0]) (by simp)).set_ 0 (.int .i64 j)).set_ 1 (.int .i64 2)).set_ 2 (.int .i64 3)).set_ 3 (.int .i64 1)).set_ 4 (.int .i64 ln)).set_ 5 (.slice (some ⟨q, 0, none⟩) 4 c'))
      have hbb0 := hid (below6_ hx.out.1 (Nat.le_refl _) (.int .i64 j) (.int .i64 2) (.int .i64 3) (.int .i64 1) (.int .i64 ln) (.slice (some ⟨q, 0, none⟩) 4 c'))
      have hown := hid (And.intro hx.out.2.1 hZ)
      clear hmanC hstrC hS
      go_wp2_with fail
      go_meet
      refine ⟨_, q, c', rfl, rfl, Nat.le_refl _, hZ5.out, hbb0.out, own_at (own6 hown.out.1 hown.out.2 _ _ _ _ _ _) fun _ _ _ => rfl⟩
  case rest =>
    obtain ⟨z, q, c', rfl, rfl, HX⟩ := hcut
    obtain ⟨k1, k2, k3, k4⟩ := HX.out
    obtain ⟨ho, hj4, hn, hb0, hP⟩ := H.out
    have hP2 := hP.below k3 hP.lt
    have y0 : wc.cell? ⟨pb, 0, none⟩ = some (.int .i64 j) := (hP2.cell 0).trans rfl
    have y1 : wc.cell? ⟨pb, 1, none⟩ = some (.int .i64 i) := (hP2.cell 1).trans rfl
    have z1 : wc.cell? ⟨z, 1, none⟩ = some (.int .i64 2) := (k2.cell 1).trans rfl
    have z5 : wc.cell? ⟨z, 5, none⟩ = some (.slice (some ⟨q, 0, none⟩) 4 c') := (k2.cell 5).trans rfl
    have hzl := k2.lt
    have hpl2 := hP2.lt
    have hcc : 4 ≤ c' ∧ c' ≤ maxLen := by
      obtain ⟨_, _, _, _, hc4, hcm⟩ := own_q k4 (by omega)
      exact ⟨hc4, hcm⟩
    have hls := layServer_ok (w := wc) (st := j) (j := i) (hid (IntsAt.of_holds (own_holdsS k4).1)) (Nat.le_refl _) ho.len hcc.1 hcc.2 ho.grp hj4 hi
    rw [(ho.on j i).1, ← hn] at hls
    have HLS := hid hls
    have HB := hid (hb0.trans (k3.mono hb0.size))
    clear hmanC hstrC hne2 hW0 hW1 p0 hpl k1 k2 k3 k4 ho hj4 hn hb0 hP hP2 hcc hls
    go_wp2_with fail
    refine HLS.out.mono ?_
    rintro e w2 ⟨rfl, hb2⟩
    have HB2 := hid (HB.out.trans (hb2.mono HB.out.size))
    clear hb2 HLS
    go_wp2_with fail
    go_ret
    exact ⟨by simp, HB2.out⟩
end
end Go.Proofs.YtopbojifllnckaaGreatDoor
namespace Go.Proofs.YtopbojifllnckaaGreatDoor
open Go.RowKit
attribute [local irreducible] wpQuiet
/-- A rebuild in block r, that nobody else owns. -/
def Reb (T : Nat → Nat) (w : World) (r a : Nat) (sp : Int) : Prop := Blk w r 114 #[.pointer (some ⟨a, 0, none⟩), .int .i64 sp] ∧ T r = 0
section
variable {B : Nat} {T T' : Nat → Nat} {w w' : World} {x : X} {r : Nat} {sp : Int}
theorem Reb.goes {a : Nat} (h : Reb T w r a sp) (g : Goes T w T' w') : Reb T' w' r a sp := ⟨(g.only.block r h.1.lt (by simp [h.2])).trans h.1, g.free r h.1.lt h.2⟩
theorem Reb.below {a : Nat} (h : Reb T w r a sp) (hb : Below w.heap.size w w') : Reb T w' r a sp := ⟨h.1.below hb h.1.lt, h.2⟩
theorem rNew (a : Nat) (w : World) : Calls Tryz.prog 16 #[.pointer (some ⟨a, 0, none⟩)] w fun e w' => e = .returned (.pointer (some ⟨w.heap.size, 0, none⟩)) ∧ Blk w' w.heap.size 114 #[.pointer (some ⟨a, 0, none⟩), .int .i64 (-1)] ∧ Below w.heap.size w w' := by
  have hB := hid (Blk.new w 114 #[.pointer (some ⟨a, 0, none⟩), .int .i64 (-1)])
  have hb := hid ((Below.refl w.heap.size w).alloc (Nat.le_refl _) (.cells #[.pointer (some ⟨a, 0, none⟩), .int .i64 (-1)] 114))
  go_enter Tryz.func16, Tryz.ntmps16
  go_wp2_with fail
  go_ret
  exact ⟨rfl, hB.out, hb.out⟩
theorem rEpoch (h : Arr B T w x) (hr : Reb T w r x.a sp) : Calls Tryz.prog 53 #[.pointer (some ⟨r, 0, none⟩)] w fun e w' => e = .returned (.int .i64 x.G.ep) ∧ w = w' := by
  have e0 : w.cell? ⟨r, 0, none⟩ = some (.pointer (some ⟨x.a, 0, none⟩)) := (hr.1.cell 0).trans rfl
  have hrl := hr.1.lt
  have hm := hid (aMan h)
  have he := hid (aEpoch h)
  generalize x.a = a at e0 hm
  generalize x.gm = gm at hm he
  generalize x.G.ep = ep at he
  clear h hr
  go_enter Tryz.func53, Tryz.ntmps53
  go_wp2_with fail
  refine hm.out.mono ?_
  rintro e w' ⟨rfl, rfl⟩
  go_wp2_with fail
  refine he.out.mono ?_
  rintro e w' ⟨rfl, rfl⟩
  go_wp2_with fail
  go_ret
  exact ⟨rfl, rfl⟩
set_option maxRecDepth 100000 in
set_option maxHeartbeats 1600000 in
theorem rFail (h : Arr B T w x) (hr : Reb T w r x.a sp) (hoq : OkQ x) (k : Nat) (hk : atI x.G.xs k = k) (hk4 : k < 4) (hh : x.G.hole = -1) (hep : x.G.ep = 1) :
    Calls Tryz.prog 17 #[.pointer (some ⟨r, 0, none⟩), .int .i64 k] w fun e w' => e = .returned (.int .i64 0) ∧ ∃ T', Arr B T' w' { x with q := nextQ x.q (15 : Nat), f := nextQ x.q (15 : Nat), N := x.N + 1, G := { x.G with ep := x.G.ep + 1, hole := k, fil := false, gone := k }, gone := k, ls := upd x.ls k true } ∧ Goes T w T' w' := by
  obtain ⟨y, hy⟩ : ∃ y : X, y = { x with q := nextQ x.q (15 : Nat), f := nextQ x.q (15 : Nat), N := x.N + 1, G := { x.G with ep := x.G.ep + 1, hole := k, fil := false, gone := k }, gone := k } := ⟨_, rfl⟩
  have hyy : ({ x with q := nextQ x.q (15 : Nat), f := nextQ x.q (15 : Nat), N := x.N + 1, G := { x.G with ep := x.G.ep + 1, hole := k, fil := false, gone := k }, gone := k, ls := upd x.ls k true } : X) = { y with ls := upd y.ls k true } := by rw [hy]
  rw [hyy]
  obtain ⟨a, ha⟩ : ∃ a, a = x.a := ⟨_, rfl⟩
  have e0 : w.cell? ⟨r, 0, none⟩ = some (.pointer (some ⟨a, 0, none⟩)) := by rw [ha]; exact (hr.1.cell 0).trans rfl
  have hrl := hr.1.lt
  have HE : Hid (∀ W2, W2 = w.drew → Calls Tryz.prog 53 #[.pointer (some ⟨r, 0, none⟩)] W2 fun e w' => e = .returned (.int .i64 1) ∧ W2 = w') := by
    show ∀ W2, _
    rintro W2 rfl
    have hb : Below w.heap.size w w.drew := (Below.refl _ _).drew
    have := rEpoch (h.below hb) (hr.below hb)
    rw [hep] at this
    exact this
  have HD : Hid (∀ W2, W2 = (w.alloc (.cells #[.int .i64 k, .int .i64 1] 3)).drew → Calls Tryz.prog 49 #[.pointer (some ⟨a, 0, none⟩), .int .i64 15, .int .i64 5, .slice (some ⟨w.heap.size, 0, none⟩) 2 2] W2 fun e w' => ∃ (A' : Option Addr) (c' : Nat), e = .returned (.tuple #[.int .i64 0, .slice A' 1 c']) ∧ w'.cell? ⟨r, 0, none⟩ = some (.pointer (some ⟨a, 0, none⟩)) ∧ Hid (∃ T', Arr B T' w' y ∧ Goes T w T' w' ∧ Reb T' w' r a sp)) := by
    show ∀ W2, _
    rintro W2 rfl
    have hb : Below w.heap.size w (w.alloc (.cells #[.int .i64 k, .int .i64 1] 3)).drew := ((Below.refl _ _).alloc (Nat.le_refl _) _).drew
    have hh2 := holds_made w [(k : Int), 1] 3 #[.int .i64 k, .int .i64 1] rfl
    rw [ha, hy]
    refine (doFail (w := (w.alloc (.cells #[.int .i64 k, .int .i64 1] 3)).drew) (c := 2) (h.below hb) hoq k hk hk4 hh hep hh2).mono ?_
    rintro e w' ⟨A', c', T', h1, h2, h3, h4, h5⟩
    have hr2 := (hr.below hb).goes h4
    exact ⟨A', c', h1, (hr2.1.cell 0).trans rfl, T', h3, (Goes.below hb).trans h4, hr2⟩
  have hya : y.a = a := by rw [hy, ha]
  rw [← ha] at hr
  have HR := hid hr
  clear h hr hoq hk hh hep hy hyy ha
  go_enter Tryz.func17, Tryz.ntmps17
  go_upto_region 3 with (fail)
  go_region_held3 (fun w' => w'.cell? ⟨r, 0, none⟩ = some (.pointer (some ⟨a, 0, none⟩))) (first | (with_reducible exact e0) | (with_reducible exact hS) | exact cellA e0 _ | go_keep) ((first
    | (go_at_call 53; refine (HE.out _ (by rfl)).mono ?_; rintro e w2 ⟨rfl, rfl⟩)
    | (go_at_call 49; refine (HD.out _ (by rfl)).mono ?_; rintro e w2 ⟨A', c', rfl, hS, hI⟩)))
  clear HE HD e0 hS
  obtain ⟨T2, m1, m2, m3⟩ := hI.out
  have hs := hid (aSrv m1)
  have hlo := hid (Lose_ok m1.srv (i := k) (by omega))
  rw [hya] at hs
  obtain ⟨sg, hsg⟩ : ∃ sg, sg = y.sg := ⟨_, rfl⟩
  rw [← hsg] at hs hlo
  have e2 : w2.cell? ⟨r, 0, none⟩ = some (.pointer (some ⟨a, 0, none⟩)) := (m3.1.cell 0).trans rfl
  have hrl2 := m3.1.lt
  have HI := hid (And.intro m1 (And.intro m2 hsg))
  clear m1 m2 m3 hI hsg
  go_upto_region 5 with (fail)
  go_wp2_with fail
  refine hs.out.mono ?_
  rintro e w3 ⟨rfl, rfl⟩
  go_wp2_with fail
  refine hlo.out.mono ?_
  rintro e w3 ⟨rfl, l1, l2, l3⟩
  have HL := hid (And.intro l1 (And.intro l2 l3))
  clear l1 l2 l3 hlo
  go_wp2_with fail
  go_ret
  obtain ⟨n1, n2⟩ := HI.out.1.stay (y := { y with ls := upd y.ls k true }) 9 (by decide) HL.out.2.1 HL.out.2.2 (by have h9 := HL.out.1; rw [HI.out.2.2] at h9; exact h9) (part_ls _)
  exact ⟨rfl, T2, n1, HI.out.2.1.trans n2⟩
/-- The array's blocks and one more. -/
def plusR (T : Nat → Nat) (r : Nat) (k : Nat) : Nat := if k = r then 99 else T k
theorem Goes.plus (h : Goes T w T' w') (r : Nat) : Goes (plusR T r) w (plusR T' r) w' := by
  refine ⟨h.only.mono fun k hk => ?_, fun k hk h0 => ?_⟩
  · unfold plusR
    split
    · omega
    · exact hk
  · unfold plusR at h0 ⊢
    split at h0
    · omega
    · rename_i e
      rw [if_neg e]
      exact h.free k hk h0
theorem Arr.far (h : Arr B T w x) {z : Nat} (hz : T z = 0) (i : Nat) (v : Value) : Arr B T (w.setCell ⟨z, i, none⟩ v) x :=
  ⟨⟨by simpa [World.setCell] using h.fits.1, fun k hk => by simpa [World.setCell] using h.fits.2 k hk⟩, fun n hn => part_keep (h.all n hn) fun k hk _ => Below.heap_setCell w ⟨z, i, none⟩ v k fun e => hn (by rw [← hk, e]; exact hz)⟩
set_option maxRecDepth 100000 in
set_option maxHeartbeats 1600000 in
theorem rStart (h : Arr B T w x) (hr : Reb T w r x.a sp) (hoq : OkQ x) (k : Nat) (hk4 : k < 4) (hm1 : x.G.m = 1) (hh : x.G.hole = k) (hf : x.G.fil = false) (hep : 0 ≤ x.G.ep ∧ x.G.ep < 1000) (hL : x.L.length ≤ 100) (hall : ∀ s ∈ x.L, s.st ≠ 3 ∧ x.gone ∈ s.xs ∧ atI s.xs x.gone = k ∧ s.xs.length = 4 ∧ (4 : Int) ∉ s.xs) :
    Calls Tryz.prog 18 #[.pointer (some ⟨r, 0, none⟩)] w fun e w' => e = .returned (.tuple #[.int .i64 4, .int .i64 0]) ∧ ∃ T', Arr B T' w' { x with q := nextQ x.q (15 : Nat), f := nextQ x.q (15 : Nat), N := x.N + 1, G := GS.put { x.G with m := 0, ep := x.G.ep + 1, fil := true } k 4, L := x.L.map (mvS k) } ∧ Reb T' w' r x.a 4 ∧ Goes (plusR T r) w (plusR T' r) w' := by
  obtain ⟨y, hy⟩ : ∃ y : X, y = { x with q := nextQ x.q (15 : Nat), f := nextQ x.q (15 : Nat), N := x.N + 1, G := GS.put { x.G with m := 0, ep := x.G.ep + 1, fil := true } k 4, L := x.L.map (mvS k) } := ⟨_, rfl⟩
  rw [← hy]
  obtain ⟨a, ha⟩ : ∃ a, a = x.a := ⟨_, rfl⟩
  obtain ⟨ep, hpe⟩ : ∃ ep, ep = x.G.ep := ⟨_, rfl⟩
  have e0 : w.cell? ⟨r, 0, none⟩ = some (.pointer (some ⟨a, 0, none⟩)) := by rw [ha]; exact (hr.1.cell 0).trans rfl
  have hrl := hr.1.lt
  have HE : Hid (∀ W2, W2 = w.drew → Calls Tryz.prog 53 #[.pointer (some ⟨r, 0, none⟩)] W2 fun e w' => e = .returned (.int .i64 ep) ∧ W2 = w') := by
    show ∀ W2, _
    rintro W2 rfl
    have hb : Below w.heap.size w w.drew := (Below.refl _ _).drew
    have := rEpoch (h.below hb) (hr.below hb)
    rw [← hpe] at this
    exact this
  have HD : Hid (∀ W2, W2 = (w.alloc (.cells #[.int .i64 ep] 3)).drew → Calls Tryz.prog 49 #[.pointer (some ⟨a, 0, none⟩), .int .i64 15, .int .i64 6, .slice (some ⟨w.heap.size, 0, none⟩) 1 1] W2 fun e w' => ∃ (A' : Option Addr) (c' : Nat), e = .returned (.tuple #[.int .i64 0, .slice A' 2 c']) ∧ w'.cell? ⟨r, 0, none⟩ = some (.pointer (some ⟨a, 0, none⟩)) ∧ Hid (2 ≤ c' ∧ ∃ T', Arr B T' w' y ∧ Goes T w T' w' ∧ Reb T' w' r a sp ∧ RowK T' w' A' [4, ep + 1])) := by
    show ∀ W2, _
    rintro W2 rfl
    have hb : Below w.heap.size w (w.alloc (.cells #[.int .i64 ep] 3)).drew := ((Below.refl _ _).alloc (Nat.le_refl _) _).drew
    have hh2 := holds_made w [ep] 3 #[.int .i64 ep] rfl
    rw [ha, hy, hpe]
    rw [hpe] at hh2
    refine (doSwap (w := (w.alloc (.cells #[.int .i64 x.G.ep] 3)).drew) (c := 1) (h.below (by rw [hpe] at hb; exact hb)) hoq k hk4 hm1 hh hf hep hL hall hh2).mono ?_
    rintro e w' ⟨A', c', T', h1, h2, h3, h4, h5⟩
    rw [hpe] at hb
    have hr2 := (hr.below hb).goes h4
    exact ⟨A', c', h1, (hr2.1.cell 0).trans rfl, h2, T', h3, (Goes.below hb).trans h4, hr2, h5⟩
  have hya : y.a = a := by rw [hy, ha]
  rw [← ha] at hr ⊢
  clear h hr hoq hm1 hh hf hep hL hall hy ha hpe
  go_enter Tryz.func18, Tryz.ntmps18
  go_upto_region 3 with (fail)
  go_region_held3 (fun w' => w'.cell? ⟨r, 0, none⟩ = some (.pointer (some ⟨a, 0, none⟩))) (first | (with_reducible exact e0) | (with_reducible exact hS) | exact cellA e0 _ | go_keep) ((first
    | (go_at_call 53; refine (HE.out _ (by rfl)).mono ?_; rintro e w2 ⟨rfl, rfl⟩)
    | (go_at_call 49; refine (HD.out _ (by rfl)).mono ?_; rintro e w2 ⟨A', c', rfl, hS, hI⟩)))
  clear HE HD e0 hS
  obtain ⟨hc2, T2, m1, m2, m3, m4⟩ := hI.out
  obtain ⟨ad, rfl, _, _, hcell⟩ := m4 (by simp)
  have e40 : w2.cell? (ad.add 0) = some (.int .i64 4) := hcell 0 _ rfl
  have e4 : w2.cell? ad = some (.int .i64 4) := by
    have : ad.add 0 = ad := by cases ad; simp [Addr.add]
    rw [← this]
    exact e40
  have e5 : w2.cell? ⟨r, 1, none⟩ = some (.int .i64 sp) := (m3.1.cell 1).trans rfl
  have f5 := m3.1.frozen 1
  have hrl2 := m3.1.lt
  have HI := hid (And.intro m1 (And.intro m2 m3))
  clear m1 m2 m3 m4 hI hcell
  go_upto_region 7 with (fail)
  obtain ⟨W, hW⟩ : ∃ W, W = w2.setCell ⟨r, 1, none⟩ (.int .i64 4) := ⟨_, rfl⟩
  rw [← hW]
  obtain ⟨m1, m2, m3⟩ := HI.out
  have n1 : Arr B T2 W y := by rw [hW]; exact m1.far m3.2 1 _
  have n3 : Reb T2 W r a 4 := by rw [hW]; exact ⟨m3.1.set_ 1 _, m3.2⟩
  have n2 : Goes (plusR T r) w (plusR T2 r) W := by
    refine (m2.plus r).trans ⟨?_, fun k _ h => h⟩
    rw [hW]
    exact setS (S := fun k => plusR T2 r k ≠ 0) (by show plusR T2 r r ≠ 0; simp [plusR]) _ _ (Only.refl _ _)
  have e6 : W.cell? ⟨r, 1, none⟩ = some (.int .i64 4) := (n3.1.cell 1).trans rfl
  have hrW := n3.1.lt
  have HN := hid (And.intro n1 (And.intro n3 n2))
  clear hW m1 m2 m3 n1 n2 n3 e40 e4 e5 f5 HI
  go_wp2_with fail
  go_ret2
  exact ⟨rfl, T2, HN.out.1, HN.out.2.1, HN.out.2.2⟩
end
end Go.Proofs.YtopbojifllnckaaGreatDoor
namespace Go.Proofs.YtopbojifllnckaaGreatDoor
open Go.RowKit
attribute [local irreducible] wpQuiet
/-- A place: what is missing, or none. -/
def plcA (bad : Option Nat) (j : Nat) : Int := if bad.isSome then j else 0
def plcB (bad : Option Nat) (i : Nat) : Int := if bad.isSome then i else -1
section
variable {B : Nat} {T T' : Nat → Nat} {w w' : World} {x : X} {r : Nat}
theorem atI_bad {bad : Option Nat} {i : Nat} (hb : bad = none ∨ bad = some i) : decide (0 ≤ atI (badL bad) i) = bad.isSome := by
  rcases hb with rfl | rfl
  · rfl
  · simp [badL, atI]
set_option maxRecDepth 100000 in
set_option maxHeartbeats 1600000 in
theorem place_ok (h : Arr B T w x) (hr : Reb T w r x.a 4) {j : Nat} {t : SS} (hj : x.L[j]? = some t) (hst : t.st = 2) (ho : OkS t) (hj4 : j < 4096) {s : ByteArray} {bad : Option Nat} (hg : Good x t j s bad) {i : Nat} (hi : atI (rowR t.xs j) 4 = i) (hb : bad = none ∨ bad = some i) :
    Calls Tryz.prog 59 #[.pointer (some ⟨r, 0, none⟩), .int .i64 j] w fun e w' => e = .returned (.agg #[.int .i64 (plcA bad j), .int .i64 (plcB bad i)]) ∧ Below w.heap.size w w' := by
  obtain ⟨a, ha⟩ : ∃ a, a = x.a := ⟨_, rfl⟩
  obtain ⟨gm, hgm⟩ : ∃ gm, gm = x.gm := ⟨_, rfl⟩
  obtain ⟨W, hW⟩ : ∃ W, W = w.alloc (.cells #[.int .i64 0, .int .i64 0] 122) := ⟨_, rfl⟩
  have hb0 : Below w.heap.size w W := by rw [hW]; exact (Below.refl _ _).alloc (Nat.le_refl _) _
  have hB0 : Blk W w.heap.size 122 #[.int .i64 0, .int .i64 0] := by rw [hW]; exact Blk.new w 122 _
  have h1 := h.below hb0
  have hr1 := hr.below hb0
  have e0 : W.cell? ⟨r, 0, none⟩ = some (.pointer (some ⟨a, 0, none⟩)) := by rw [ha]; exact (hr1.1.cell 0).trans rfl
  have hrl := hr1.1.lt
  have hm := hid (aMan h1)
  have hs := hid (aStripe h1 hj)
  rw [← ha, ← hgm] at hm
  rw [← hgm] at hs
  obtain ⟨st, hste⟩ : ∃ st, st = t.st := ⟨_, rfl⟩
  obtain ⟨ln, hln⟩ : ∃ ln, ln = t.ln := ⟨_, rfl⟩
  rw [← hste, ← hln] at hs
  have H := hid (And.intro h (And.intro hr (And.intro hj (And.intro hst (And.intro ho (And.intro hj4 (And.intro hg (And.intro hi (And.intro hb (And.intro ha (And.intro hb0 hB0)))))))))))
  clear h hr hj hst ho hj4 hg hi hb ha hgm hb0 hB0 h1 hr1 hste hln
  go_enter Tryz.func59, Tryz.ntmps59
  go_upto_region 1 with (fail)
  rw [← hW]
  clear hW
  go_wp2_with fail
  refine hm.out.mono ?_
  rintro e w0 ⟨rfl, rfl⟩
  go_wp2_with fail
  refine hs.out.mono ?_
  rintro e w1 ⟨q, c, rfl, hx4, hbb⟩
  go_upto_region 2 with (fail)
  obtain ⟨V, hV⟩ : ∃ V, V = w1.alloc (.cells #[.int .i64 j, .int .i64 st, .int .i64 3, .int .i64 1, .int .i64 ln, .slice (some ⟨q, 0, none⟩) 4 c] 37) := ⟨_, rfl⟩
  rw [← hV]
  obtain ⟨z, hz⟩ : ∃ z, z = w1.heap.size := ⟨_, rfl⟩
  rw [← hz]
  have hbV : Below W.heap.size W V := by rw [hV]; exact hbb.alloc hbb.size _
  have hBz : Blk V z 37 #[.int .i64 j, .int .i64 st, .int .i64 3, .int .i64 1, .int .i64 ln, .slice (some ⟨q, 0, none⟩) 4 c] := by rw [hV, hz]; exact Blk.new w1 37 _
  have hxV : V.ownsRow W.heap.size 3 1 (.slice (some ⟨q, 0, none⟩) 4 c) 4 (nums t.xs) := by rw [hV]; exact hx4.alloc _
  obtain ⟨h, hr, hj, hst, ho, hj4, hg, hi, hb, ha, hb0, hB0⟩ := H.out
  have hV0 : Below w.heap.size w V := hb0.trans (hbV.mono hb0.size)
  have hrV := hr.below hV0
  have r1 : V.cell? ⟨r, 1, none⟩ = some (.int .i64 4) := (hrV.1.cell 1).trans rfl
  have r0 : V.cell? ⟨r, 0, none⟩ = some (.pointer (some ⟨a, 0, none⟩)) := by rw [ha]; exact (hrV.1.cell 0).trans rfl
  have z5 : V.cell? ⟨z, 5, none⟩ = some (.slice (some ⟨q, 0, none⟩) 4 c) := (hBz.cell 5).trans rfl
  have hrlV := hrV.1.lt
  have hzl := hBz.lt
  have hix : Hid (∀ W2, W2 = V.drew → Calls Tryz.prog 119 #[.slice (some ⟨q, 0, none⟩) 4 c, .int .i64 j, .int .i64 4] W2 fun e w' => e = .returned (.tuple #[.int .i64 i, .int .i64 0]) ∧ (w'.cell? ⟨z, 5, none⟩ = some (.slice (some ⟨q, 0, none⟩) 4 c) ∧ w'.cell? ⟨r, 1, none⟩ = some (.int .i64 4)) ∧ Below V.heap.size V w') := by
    show ∀ W2, _
    rintro W2 rfl
    obtain ⟨_, _, _, _, hc4, hcm⟩ := own_q hxV (by omega)
    refine (layIndex_ok (w := V.drew) (st := j) (y := i) (hid (IntsAt.of_holds (Holds.below (own_holdsS hxV).1 (Below.refl _ _).drew))) (Nat.le_refl _) ho.len hc4 hcm ho.grp hj4 hi).mono ?_
    rintro e w' ⟨he, hb2⟩
    have hb3 : Below V.heap.size V w' := (Below.refl _ _).drew.trans hb2
    exact ⟨he, ⟨((hBz.below hb3 hzl).cell 5).trans rfl, ((hrV.below hb3).1.cell 1).trans rfl⟩, hb3⟩
  have HV := hid hV0
  have HBV := hid (hB0.below hbV hB0.lt)
  clear hV hz hbV hBz hxV h hr hj hst ho hj4 hg hi hb ha hb0 hB0 hV0 hrV hx4 hbb hs hm
  go_region_held3 (fun w' => w'.cell? ⟨z, 5, none⟩ = some (.slice (some ⟨q, 0, none⟩) 4 c) ∧ w'.cell? ⟨r, 1, none⟩ = some (.int .i64 4)) (first | (with_reducible exact ⟨z5, r1⟩) | (with_reducible exact hS) | go_keep) ((go_at_call 119; refine (hix.out _ (by rfl)).mono ?_; rintro e w2 ⟨rfl, hS, hbw⟩))
  obtain ⟨h, hr, hj, hst, ho, hj4, hg, hi, hb, ha, hb0, hB0⟩ := H.out
  have h02 : Below w.heap.size w w2 := HV.out.trans (hbw.mono HV.out.size)
  have r02 : w2.cell? ⟨r, 0, none⟩ = some (.pointer (some ⟨a, 0, none⟩)) := by rw [ha]; exact ((hr.below h02).1.cell 0).trans rfl
  have hrl2 := (hr.below h02).1.lt
  have hmi := hid (Missing_good (h.below h02) hj hst ho hj4 hg)
  rw [← ha] at hmi
  have hc := hid (atI_bad hb)
  have H2 := hid h02
  have HB2 := hid (HBV.out.below hbw HBV.out.lt)
  clear hS hbw hix z5 r1 r0 h hr hj hst ho hj4 hg hi hb ha hb0 hB0 h02
  go_wp2_with fail
  refine hmi.out.mono ?_
  rintro e w3 ⟨v, rfl, hv, hb3⟩
  obtain ⟨A3, c3, rfl⟩ := own_form hv
  have hcon := has_any (w := w3) (c := c3) (i : Int) (hid (IntsAt.of_holds (own_holdsS hv).1)) rfl (by cases bad <;> simp [badL, maxLen])
  rw [hc.out] at hcon
  have HC := hid hcon
  have HB3 := hid (HB2.out.below hb3 HB2.out.lt)
  have H3 := hid (H2.out.trans (hb3.mono H2.out.size))
  clear hv hb3 hmi r02 hcon hc
  go_wp2_with fail
  refine HC.out.mono ?_
  rintro e w4 ⟨rfl, rfl⟩
  have hBw : Blk w3 w.heap.size 122 #[.int .i64 0, .int .i64 0] := HB3.out
  have c0 : w3.cell? ⟨w.heap.size, 0, none⟩ = some (.int .i64 0) := (hBw.cell 0).trans rfl
  have c1 : w3.cell? ⟨w.heap.size, 1, none⟩ = some (.int .i64 0) := (hBw.cell 1).trans rfl
  have f0 := hBw.frozen 0
  have f1 := hBw.frozen 1
  have hwl := hBw.lt
  have HBW := hid hBw
  have hset := hid (fun (u v : Value) => And.intro ((hBw.set_ 0 u).set_ 1 v) ((H3.out.setCell (p := ⟨w.heap.size, 0, none⟩) (Nat.le_refl _) u).setCell (p := ⟨w.heap.size, 1, none⟩) (Nat.le_refl _) v))
  clear hBw HC
  cases bad with
  | none =>
    go_wp2_with fail
    obtain ⟨k1, k2⟩ := hset.out (.int .i64 0) (.int .i64 (-1))
    have y0 := k1.cell 0
    have y1 := k1.cell 1
    exact bodyPost_ret (v := .agg #[.int .i64 0, .int .i64 (-1)]) (by simp [results, Tryz.results59, go_sem, y0, y1]) rfl ⟨rfl, k2⟩
  | some b =>
    go_wp2_with fail
    obtain ⟨k1, k2⟩ := hset.out (.int .i64 j) (.int .i64 i)
    have y0 := k1.cell 0
    have y1 := k1.cell 1
    exact bodyPost_ret (v := .agg #[.int .i64 j, .int .i64 i]) (by simp [results, Tryz.results59, go_sem, y0, y1]) rfl ⟨rfl, k2⟩
end
end Go.Proofs.YtopbojifllnckaaGreatDoor
namespace Go.Proofs.YtopbojifllnckaaGreatDoor
open Go.RowKit
attribute [local irreducible] wpQuiet
noncomputable def isInt (r : Option (AV × St)) : Bool := match r with
  | some (.int .i64 _, _) => true
  | _ => false
/-- From the run of a call on one number: it gives back some number, and nothing that stood is touched. -/
theorem call_int {f n : Nat} {k : IntKind} {m : Int} (h : isInt (fF Tryz.prog 100000 staOf specTop n f [.int k m] ⟨.e, 0⟩) = true) (w : World) : Calls Tryz.prog f #[.int k m] w fun e w' => (∃ z, e = .returned (.int .i64 z)) ∧ Below w.heap.size w w' := by
  cases hr : fF Tryz.prog 100000 staOf specTop n f [.int k m] ⟨.e, 0⟩ with
  | none => rw [hr] at h; cases h
  | some r =>
    obtain ⟨v, σ'⟩ := r
    rw [hr] at h
    have hv : ∃ z, v = .int .i64 z := by
      cases v <;> first | (cases h; done) | skip
      next k z =>
      cases k <;> first | (cases h; done) | exact ⟨z, rfl⟩
    obtain ⟨z, rfl⟩ := hv
    have hR : Rel Tryz.prog (fun _ => none) ⟨.e, 0⟩ w := ⟨fun b o hb => (by simp [Tr.get_e] at hb), fun b b' o o' r r' hb => (by simp [Tr.get_e] at hb), fun b r hb => (by cases hb), fun b o hb => (by simp [Tr.get_e] at hb)⟩
    have := (top_call n f [.int k m] ⟨.e, 0⟩ _ σ' (fun _ => none) w [.int k m] hr hR rfl).2
    refine this.mono ?_
    rintro e w' ⟨E', c, rfl, hc, hs⟩
    simp only [conc, Option.some.injEq] at hc
    subst hc
    refine ⟨⟨z, rfl⟩, hs.os, hs.tape, hs.output, hs.size, fun k hk => hs.frame k hk fun hrg => ?_⟩
    obtain ⟨b, o, r, hb, -⟩ := hrg
    simp [Tr.get_e] at hb
theorem len_any (n : Nat) (hn : n ≤ 6) (w : World) : Calls Tryz.prog 193 #[.int .u64 n] w fun e w' => (∃ z, e = .returned (.int .i64 z)) ∧ Below w.heap.size w w' := by
  rcases (show n = 0 ∨ n = 1 ∨ n = 2 ∨ n = 3 ∨ n = 4 ∨ n = 5 ∨ n = 6 by omega) with rfl | rfl | rfl | rfl | rfl | rfl | rfl
  · exact call_int (n := 30) (m := 0) (by kernel_rfl) w
  · exact call_int (n := 30) (m := 1) (by kernel_rfl) w
  · exact call_int (n := 30) (m := 2) (by kernel_rfl) w
  · exact call_int (n := 30) (m := 3) (by kernel_rfl) w
  · exact call_int (n := 30) (m := 4) (by kernel_rfl) w
  · exact call_int (n := 30) (m := 5) (by kernel_rfl) w
  · exact call_int (n := 30) (m := 6) (by kernel_rfl) w
theorem nan_ok (x : Int) (w : World) : Calls Tryz.prog 194 #[.int .i64 x] w fun e w' => e = .returned (.bool false) ∧ w = w' := by
  go_enter Tryz.func194, Tryz.ntmps194
  go_wp2_with fail
  go_ret
  exact ⟨by simp, rfl⟩
theorem cmp_any (x y : Int) (w : World) : Calls Tryz.prog 131 #[.int .i64 x, .int .i64 y] w fun e w' => ∃ k, e = .returned (.int .i64 k) ∧ (y < x → k = 1) ∧ w = w' := by
  have h1 := hid (nan_ok x w)
  have h2 := hid (nan_ok y w)
  rcases Int.lt_trichotomy x y with h | h | h
  · have d1 : decide (x < y) = true := by simp [h]
    have hk := hid (show x ≤ y by omega)
    go_enter Tryz.func131, Tryz.ntmps131
    go_wp2_with fail
    refine h1.out.mono ?_
    rintro e w' ⟨rfl, rfl⟩
    go_wp2_with fail
    refine h2.out.mono ?_
    rintro e w' ⟨rfl, rfl⟩
    go_wp2_with fail
    go_ret
    exact ⟨-1, rfl, fun c => absurd c (Int.not_lt.2 hk.out), rfl⟩
  · have d1 : decide (x < y) = false := by simp; omega
    have d2 : decide (y < x) = false := by simp; omega
    have hk := hid (show x ≤ y by omega)
    clear h
    go_enter Tryz.func131, Tryz.ntmps131
    go_wp2_with fail
    refine h1.out.mono ?_
    rintro e w' ⟨rfl, rfl⟩
    go_wp2_with fail
    refine h2.out.mono ?_
    rintro e w' ⟨rfl, rfl⟩
    go_wp2_with fail
    go_ret
    exact ⟨0, rfl, fun c => absurd c (Int.not_lt.2 hk.out), rfl⟩
  · have d1 : decide (x < y) = false := by simp; omega
    have d2 : decide (y < x) = true := by simp [h]
    go_enter Tryz.func131, Tryz.ntmps131
    go_wp2_with fail
    refine h1.out.mono ?_
    rintro e w' ⟨rfl, rfl⟩
    go_wp2_with fail
    refine h2.out.mono ?_
    rintro e w' ⟨rfl, rfl⟩
    go_wp2_with fail
    go_ret
    exact ⟨1, rfl, fun _ => rfl, rfl⟩
theorem or_one {g : Nat} {k : Int} {w : World} (h : Blk w g 3 #[.int .i64 1, .int .i64 k]) : Calls Tryz.prog 249 #[.slice (some ⟨g, 0, none⟩) 2 2] w fun e w' => e = .returned (.int .i64 1) ∧ w = w' := by
  have e0 : w.cell? ⟨g, 0, none⟩ = some (.int .i64 1) := (h.cell 0).trans rfl
  have hl := h.lt
  clear h
  go_enter Tryz.func249, Tryz.ntmps249
  go_wp2_with fail
  go_loopw [8] (fun v8 wr => v8 = .int .i64 0 ∧ wr = w) (fun _ _ => 0)
  case atStart => exact ⟨rfl, rfl⟩
  case round =>
    obtain ⟨rfl, rfl⟩ := hrel
    go_wp2_with fail
    go_ret
    exact ⟨rfl, rfl⟩
set_option maxRecDepth 100000 in
set_option maxHeartbeats 1600000 in
theorem less_ok (a b c d : Int) (h : c < a) (w : World) : Calls Tryz.prog 248 #[.agg #[.int .i64 a, .int .i64 b], .agg #[.int .i64 c, .int .i64 d]] w fun e w' => e = .returned (.int .i64 1) ∧ Below w.heap.size w w' := by
  obtain ⟨W, hW⟩ : ∃ W, W = (w.alloc (.cells #[.int .i64 a, .int .i64 b] 122)).alloc (.cells #[.int .i64 c, .int .i64 d] 122) := ⟨_, rfl⟩
  have hs : (w.alloc (.cells #[.int .i64 a, .int .i64 b] 122)).heap.size = w.heap.size + 1 := by simp
  have hB0 : Blk W w.heap.size 122 #[.int .i64 a, .int .i64 b] := by rw [hW]; exact (Blk.new w 122 _).alloc _
  have hB1 : Blk W (w.heap.size + 1) 122 #[.int .i64 c, .int .i64 d] := by rw [hW, ← hs]; exact Blk.new _ 122 _
  have hb : Below w.heap.size w W := by rw [hW]; exact ((Below.refl _ _).alloc (Nat.le_refl _) _).alloc (by omega) _
  have x0 : W.cell? ⟨w.heap.size, 0, none⟩ = some (.int .i64 a) := (hB0.cell 0).trans rfl
  have x1 : W.cell? ⟨w.heap.size, 1, none⟩ = some (.int .i64 b) := (hB0.cell 1).trans rfl
  have x2 : W.cell? ⟨w.heap.size + 1, 0, none⟩ = some (.int .i64 c) := (hB1.cell 0).trans rfl
  have x3 : W.cell? ⟨w.heap.size + 1, 1, none⟩ = some (.int .i64 d) := (hB1.cell 1).trans rfl
  have hl0 := hB0.lt
  have hl1 := hB1.lt
  have HB := hid hb
  have hor : Hid (∀ k1 k2 W2, W2 = (W.alloc (.cells #[.int .i64 k1, .int .i64 k2] 3)).drew → (c < a → k1 = 1) → Calls Tryz.prog 249 #[.slice (some ⟨W.heap.size, 0, none⟩) 2 2] W2 fun e w' => e = .returned (.int .i64 1) ∧ W2 = w') := by
    show ∀ k1 k2 W2, _
    rintro k1 k2 W2 rfl hk
    obtain rfl := hk h
    exact or_one (w := (W.alloc (.cells #[.int .i64 1, .int .i64 k2] 3)).drew) (Blk.new W 3 _)
  clear hB0 hB1 hb hs h
  go_enter Tryz.func248, Tryz.ntmps248
  go_upto_region 1 with (fail)
  rw [← hW]
  clear hW
  go_region_held3 (fun w' => w'.cell? ⟨w.heap.size, 0, none⟩ = some (.int .i64 a) ∧ w'.cell? ⟨w.heap.size, 1, none⟩ = some (.int .i64 b) ∧ w'.cell? ⟨w.heap.size + 1, 0, none⟩ = some (.int .i64 c) ∧ w'.cell? ⟨w.heap.size + 1, 1, none⟩ = some (.int .i64 d)) (first | (with_reducible exact ⟨x0, x1, x2, x3⟩) | exact ⟨cellA x0 _, cellA x1 _, cellA x2 _, cellA x3 _⟩ | go_keep) ((first
    | (go_at_call 131; refine (cmp_any _ _ _).mono ?_; rintro e w2 ⟨k1, rfl, hk1, rfl⟩)
    | (go_at_call 249; refine (hor.out _ _ _ (by rfl) (by assumption)).mono ?_; rintro e w2 ⟨rfl, rfl⟩)))
  all_goals
    go_wp2_with fail
    go_ret
    exact ⟨rfl, (HB.out.alloc HB.out.size _).drew⟩
end Go.Proofs.YtopbojifllnckaaGreatDoor
