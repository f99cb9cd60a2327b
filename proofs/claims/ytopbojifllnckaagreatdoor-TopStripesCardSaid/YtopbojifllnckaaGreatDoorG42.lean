/- rebuild: give. rebuild: Step, Finish. rebuild: Finish. fsck.Stripes. -/
import Derived.Test.YtopbojifllnckaaGreatDoorG41
namespace Go.Proofs.YtopbojifllnckaaGreatDoor
open Go.RowKit
attribute [local irreducible] wpQuiet
/-- An array that was given a fragment back. -/
def gvX (x : X) (t i : Nat) (s : ByteArray) : X := { x with C := upd x.C 4 (x.C 4 ++ [⟨t, i, (fragsS s).getD i ⟨#[]⟩⟩]) }
section
variable {B : Nat} {T T' : Nat → Nat} {w w' : World} {x : X} {r : Nat} {xs : List Int} {ix : Nat → Nat} {S : List ByteArray} {t : Nat}
/-- What a give knows of memory: the rebuild, the place. -/
def GvAt (w0 wr : World) (pb j i : Nat) : Prop := Below w0.heap.size w0 wr ∧ Blk wr pb 122 #[.int .i64 j, .int .i64 i] ∧ w0.heap.size ≤ pb
theorem GvAt.below {w0 : World} {pb j i : Nat} (h : GvAt w0 w pb j i) (hb : Below w.heap.size w w') : GvAt w0 w' pb j i := ⟨h.1.trans (hb.mono h.1.size), h.2.1.below hb h.2.1.lt, h.2.2⟩
theorem GvAt.cells {w0 : World} {pb j i a : Nat} (h : GvAt w0 w pb j i) (hr : Reb T w0 r a 4) : w.cell? ⟨r, 0, none⟩ = some (.pointer (some ⟨a, 0, none⟩)) ∧ w.cell? ⟨pb, 0, none⟩ = some (.int .i64 j) ∧ w.cell? ⟨pb, 1, none⟩ = some (.int .i64 i) ∧ r < w.heap.size ∧ pb < w.heap.size :=
  ⟨((hr.below h.1).1.cell 0).trans rfl, (h.2.1.cell 0).trans rfl, (h.2.1.cell 1).trans rfl, (hr.below h.1).1.lt, h.2.1.lt⟩
set_option maxRecDepth 100000 in
set_option maxHeartbeats 3200000 in
theorem give_ok (h : Arr B T w x) (hr : Reb T w r x.a 4) (hb : Rb x xs ix S t) {s : ByteArray} (hj : S[t]? = some s) :
    Calls Tryz.prog 58 #[.pointer (some ⟨r, 0, none⟩), .agg #[.int .i64 t, .int .i64 (ix t)]] w fun e w' => e = .returned (.int .i64 0) ∧ ∃ T', Arr B T' w' (gvX x t (ix t) s) ∧ Goes T w T' w' := by
  obtain ⟨a, ha⟩ : ∃ a, a = x.a := ⟨_, rfl⟩
  obtain ⟨gm, hgm⟩ : ∃ gm, gm = x.gm := ⟨_, rfl⟩
  obtain ⟨i, hi⟩ : ∃ i, i = ix t := ⟨_, rfl⟩
  have hi4 : i < 4 := by rw [hi]; exact hb.ix4 t
  have hg := hb.good t s hj
  rw [if_neg (by omega), ← hi] at hg
  have hjL := hb.at_ hj
  have ho := hb.ok s
  have ht4 : t < 4096 := by have := hb.six; have := hb.tm; omega
  obtain ⟨W, hW⟩ : ∃ W, W = w.alloc (.cells #[.int .i64 t, .int .i64 i] 122) := ⟨_, rfl⟩
  obtain ⟨pb, hpb⟩ : ∃ pb, pb = w.heap.size := ⟨_, rfl⟩
  have hG0 : GvAt w W pb t i := by
    rw [hW, hpb]
    exact ⟨(Below.refl _ _).alloc (Nat.le_refl _) _, Blk.new w 122 _, Nat.le_refl _⟩
  rw [ha] at *
  obtain ⟨e0, p0, p1, hrl, hpl⟩ := hG0.cells hr
  have hmis : Hid (∀ W2, W2 = W.drew → Calls Tryz.prog 117 #[.pointer (some ⟨x.a, 0, none⟩), .int .i64 t] W2 fun e w' => ∃ A c, e = .returned (.slice A 1 c) ∧ (w'.cell? ⟨r, 0, none⟩ = some (.pointer (some ⟨x.a, 0, none⟩)) ∧ w'.cell? ⟨pb, 0, none⟩ = some (.int .i64 t)) ∧ GvAt w w' pb t i) := by
    show ∀ W2, _
    rintro W2 rfl
    have hG1 := hG0.below (w' := W.drew) (Below.refl _ _).drew
    refine (Missing_good (h.below hG1.1) hjL rfl ho ht4 hg).mono ?_
    rintro e w' ⟨v, rfl, hv, hbb⟩
    obtain ⟨A, c, rfl⟩ := own_form hv
    have hG2 := hG1.below hbb
    obtain ⟨k0, k1, _⟩ := hG2.cells hr
    exact ⟨A, c, rfl, ⟨k0, k1⟩, hG2⟩
  have H := hid (And.intro h (And.intro hr (And.intro hb (And.intro hj (And.intro hg (And.intro hjL (And.intro ho (And.intro ht4 hi))))))))
  rw [← hi]
  obtain ⟨aa, haa⟩ : ∃ aa, aa = x.a := ⟨_, rfl⟩
  rw [← haa] at hmis e0
  have HA := hid haa
  clear h hr hb hj hg hjL ho ht4 hi ha haa hG0 hgm
  go_enter Tryz.func58, Tryz.ntmps58
  go_upto_region 1 with (fail)
  rw [← hW, ← hpb]
  clear hW hpb
  go_region_held3 (fun w' => w'.cell? ⟨r, 0, none⟩ = some (.pointer (some ⟨aa, 0, none⟩)) ∧ w'.cell? ⟨pb, 0, none⟩ = some (.int .i64 t)) (first | (with_reducible exact ⟨e0, p0⟩) | (with_reducible exact hS) | go_keep) ((go_at_call 117; refine (hmis.out _ (by rfl)).mono ?_; rintro e w1 ⟨A1, c1, rfl, hS, hG1⟩))
  have HG1 := hid hG1
  clear hmis hS e0 p0 p1 hrl hpl hG1
  obtain ⟨e0, p0, p1, hrl, hpl⟩ := HG1.out.cells H.out.2.1
  rw [← HA.out] at e0
  go_upto_region 3 with (fail)
  have hmanC : Hid (∀ W2, Below w1.heap.size w1 W2 → Calls Tryz.prog 60 #[.pointer (some ⟨aa, 0, none⟩)] W2 fun e w' => e = .returned (.pointer (some ⟨x.gm, 0, none⟩)) ∧ W2 = w') := by
    show ∀ W2, _
    intro W2 hb2
    rw [HA.out]
    exact aMan (H.out.1.below (HG1.out.below hb2).1)
  have hstrC : Hid (∀ W2, Below w1.heap.size w1 W2 → Calls Tryz.prog 11 #[.pointer (some ⟨x.gm, 0, none⟩), .int .i64 t] W2 fun e w' => ∃ (q c' : Nat), e = .returned (.tuple #[.agg #[.int .i64 t, .int .i64 2, .int .i64 3, .int .i64 1, .int .i64 s.size, .slice (some ⟨q, 0, none⟩) 4 c'], .bool true]) ∧ r < w'.heap.size ∧ pb < w'.heap.size ∧ (w'.cell? ⟨r, 0, none⟩ = some (.pointer (some ⟨aa, 0, none⟩)) ∧ w'.cell? ⟨pb, 0, none⟩ = some (.int .i64 t)) ∧ Hid (Below w1.heap.size w1 w' ∧ ∀ k t cs, Blk W2 k t cs → Blk w' k t cs)) := by
    show ∀ W2, _
    intro W2 hb2
    have hG2 := HG1.out.below hb2
    refine (aStripe (H.out.1.below hG2.1) H.out.2.2.2.2.2.1).mono ?_
    rintro e w' ⟨q, c', rfl, _, hbb⟩
    have hG3 := hG2.below hbb
    obtain ⟨k0, k1, _, k3, k4⟩ := hG3.cells H.out.2.1
    rw [← HA.out] at k0
    exact ⟨q, c', rfl, k3, k4, ⟨k0, k1⟩, hb2.trans (hbb.mono hb2.size), fun k t cs hB => hB.below hbb hB.lt⟩
  generalize x.gm = gm2 at hmanC hstrC
  have hne1 : r ≠ w1.heap.size := Nat.ne_of_lt hrl
  have hne2 : pb ≠ w1.heap.size := Nat.ne_of_lt hpl
  have hW0 : Hid (Below w1.heap.size w1 w1.drew) := (Below.refl _ _).drew
  have hW1 : Hid (Below w1.heap.size w1 (w1.alloc (.cells #[.int .i64 0, .int .i64 0, .int .i64 0, .int .i64 0, .int .i64 0, .slice none 0 0] 37)).drew) := ((Below.refl _ _).alloc (Nat.le_refl _) _).drew
  go_cut [5, 6] (fun s5 s6 wx => ∃ (z q c' : Nat), s5 = .pointer (some ⟨z, 0, none⟩) ∧ s6 = .bool true ∧ Hid (w1.heap.size ≤ z ∧ Blk wx z 37 #[.int .i64 t, .int .i64 2, .int .i64 3, .int .i64 1, .int .i64 s.size, .slice (some ⟨q, 0, none⟩) 4 c'] ∧ Below w1.heap.size w1 wx))
  case first =>
    go_region_held3 (fun w' => w'.cell? ⟨r, 0, none⟩ = some (.pointer (some ⟨aa, 0, none⟩)) ∧ w'.cell? ⟨pb, 0, none⟩ = some (.int .i64 t)) (first | (with_reducible exact hS) | (with_reducible exact ⟨e0, p0⟩) | (with_reducible exact ⟨cell6_ hne1 _ _ _ _ _ _ hS.1, cell6_ hne2 _ _ _ _ _ _ hS.2⟩) | (with_reducible exact ⟨cellAl_ hgl' _ hS.1, cellAl_ hbl' _ hS.2⟩) | (with_reducible exact ⟨cellAl_ hrl _ e0, cellAl_ hpl _ p0⟩) | go_keep) ((first
      | (go_at_call 60; first
        | (refine (hmanC.out _ hW0.out).mono ?_; rintro e0' w' ⟨rfl, rfl⟩)
        | (refine (hmanC.out _ hW1.out).mono ?_; rintro e0' w' ⟨rfl, rfl⟩))
      | (go_at_call 11; first
        | (refine (hstrC.out _ hW0.out).mono ?_; rintro e0' w' ⟨q, c', rfl, hgl', hbl', hS, hx⟩)
        | (refine (hstrC.out _ hW1.out).mono ?_; rintro e0' w' ⟨q, c', rfl, hgl', hbl', hS, hx⟩; have hZ := hx.out.2 w1.heap.size 37 _ (Blk.new w1 37 #[.int .i64 0, .int .i64 0, .int .i64 0, .int .i64 0, .int .i64 0, .slice none 0 0]); have z0 : w'.cell? ⟨w1.heap.size, 0, none⟩ = some (.int .i64 0) := (hZ.cell 0).trans rfl; have z1 : w'.cell? ⟨w1.heap.size, 1, none⟩ = some (.int .i64 0) := (hZ.cell 1).trans rfl; have z2 : w'.cell? ⟨w1.heap.size, 2, none⟩ = some (.int .i64 0) := (hZ.cell 2).trans rfl; have z3 : w'.cell? ⟨w1.heap.size, 3, none⟩ = some (.int .i64 0) := (hZ.cell 3).trans rfl; have z4 : w'.cell? ⟨w1.heap.size, 4, none⟩ = some (.int .i64 0) := (hZ.cell 4).trans rfl; have z5 : w'.cell? ⟨w1.heap.size, 5, none⟩ = some (.slice none 0 0) := (hZ.cell 5).trans rfl; have v0 := hZ.frozen 0; have v1 := hZ.frozen 1; have v2 := hZ.frozen 2; have v3 := hZ.frozen 3; have v4 := hZ.frozen 4; have v5 := hZ.frozen 5))))
    · have hbb0 := hid (hx.out.1.alloc hx.out.1.size (.cells #[.int .i64 t, .int .i64 2, .int .i64 3, .int .i64 1, .int .i64 s.size, .slice (some ⟨q, 0, none⟩) 4 c'] 37))
      have hz0 := hid hx.out.1.size
      clear hmanC hstrC hS hx
      go_wp2_with fail
      go_meet
      exact ⟨_, q, c', rfl, rfl, hz0.out, Blk.new w' 37 _, hbb0.out⟩
    all_goals
      have hZ5 := hid (((((((hx.out.2 w1.heap.size 37 _ (Blk.new w1 37 #[.int .i64 0, .int .i64 0, .int .i64 0, .int .i64 0, .int .i64 0, .slice none 0 0])).set_ 0 (.int .i64 t)).set_ 1 (.int .i64 2)).set_ 2 (.int .i64 3)).set_ 3 (.int .i64 1)).set_ 4 (.int .i64 s.size)).set_ 5 (.slice (some ⟨q, 0, none⟩) 4 c'))
      have hbb0 := hid (below6_ hx.out.1 (Nat.le_refl _) (.int .i64 t) (.int .i64 2) (.int .i64 3) (.int .i64 1) (.int .i64 s.size) (.slice (some ⟨q, 0, none⟩) 4 c'))
      clear hmanC hstrC hS hx
      go_wp2_with fail
      go_meet
      exact ⟨_, q, c', rfl, rfl, Nat.le_refl _, hZ5.out, hbb0.out⟩
  case rest =>
    obtain ⟨z, q, c', rfl, rfl, HX⟩ := hcut
    clear hmanC hstrC hne1 hne2 hW0 hW1 e0 p0 p1 hrl hpl
    have HG2 := hid (HG1.out.below HX.out.2.2)
    have z5 : wc.cell? ⟨z, 5, none⟩ = some (.slice (some ⟨q, 0, none⟩) 4 c') := (HX.out.2.1.cell 5).trans rfl
    have hzl := HX.out.2.1.lt
    have hmk := make41 wc
    obtain ⟨lb, hlb⟩ : ∃ lb, lb = wc.heap.size := ⟨_, rfl⟩
    obtain ⟨V, hV⟩ : ∃ V, V = wc.alloc (.cells #[.string ⟨#[]⟩, .string ⟨#[]⟩, .string ⟨#[]⟩, .string ⟨#[]⟩] 9) := ⟨_, rfl⟩
    have hbV : Below wc.heap.size wc V := by rw [hV]; exact (Below.refl _ _).alloc (Nat.le_refl _) _
    have HI0 : Hid (GvAt w V pb t i ∧ Blk V lb 9 #[.string (asF x (strOf xs s) t 0 0), .string (asF x (strOf xs s) t 0 1), .string (asF x (strOf xs s) t 0 2), .string (asF x (strOf xs s) t 0 3)] ∧ w.heap.size ≤ lb) := by
      refine ⟨HG2.out.below hbV, ?_, ?_⟩
      · rw [hV, hlb]
        exact Blk.new wc 9 _
      · rw [hlb]
        exact HG2.out.1.size
    clear hbV
    go_wp2_with fail
    rw [← hV, ← hlb]
    clear hmk z5 hV hlb
    go_loopw [37] (fun v37 wr => ∃ k : Nat, k ≤ 4 ∧ v37 = .int .i64 k ∧ Hid (GvAt w wr pb t i ∧ Blk wr lb 9 #[.string (asF x (strOf xs s) t k 0), .string (asF x (strOf xs s) t k 1), .string (asF x (strOf xs s) t k 2), .string (asF x (strOf xs s) t k 3)] ∧ w.heap.size ≤ lb)) (fun v37 _ => 4 - (intOf v37).toNat)
    case atStart => exact ⟨0, by omega, rfl, HI0⟩
    case round =>
      obtain ⟨k, hk, rfl, hI⟩ := hrel
      by_cases hk4 : k < 4
      · obtain ⟨k0, k1, k2, k3, k4⟩ := hI.out.1.cells H.out.2.1
        rw [← HA.out] at k0
        obtain ⟨f, hf⟩ : ∃ f, f = (fragX x (strOf xs s) t k).1 := ⟨_, rfl⟩
        obtain ⟨er, her⟩ : ∃ er, er = (fragX x (strOf xs s) t k).2 := ⟨_, rfl⟩
        have hfr : Hid (∀ W2, W2 = wr.drew → Calls Tryz.prog 118 #[.pointer (some ⟨aa, 0, none⟩), .int .i64 t, .int .i64 k] W2 fun e w' => e = .returned (.tuple #[.string f, .int .i64 er]) ∧ (w'.cell? ⟨r, 0, none⟩ = some (.pointer (some ⟨aa, 0, none⟩)) ∧ w'.cell? ⟨pb, 0, none⟩ = some (.int .i64 t)) ∧ Below wr.heap.size wr w') := by
          show ∀ W2, _
          rintro W2 rfl
          have hb1 : Below wr.heap.size wr wr.drew := (Below.refl _ _).drew
          have hG3 := hI.out.1.below hb1
          rw [HA.out, hf, her]
          refine (aFragment (H.out.1.below hG3.1) H.out.2.2.2.2.2.1 H.out.2.2.2.2.2.2.1 H.out.2.2.2.2.2.2.2.1 hk4).mono ?_
          rintro e w' ⟨he, hb2⟩
          have hG4 := hG3.below hb2
          obtain ⟨y0, y1, _⟩ := hG4.cells H.out.2.1
          exact ⟨he, ⟨y0, y1⟩, hb1.trans hb2⟩
        obtain ⟨ul, el⟩ : ∃ u, wr.cell? ⟨lb, k, none⟩ = some u := ⟨_, four_at (fun i => .string (asF x (strOf xs s) t k i)) hI.out.2.1 hk4⟩
        have nr : r ≠ lb := by have := H.out.2.1.1.lt; have := hI.out.2.2; omega
        have np : pb ≠ lb := hI.out.1.2.1.ne_ hI.out.2.1 (by decide)
        have q0 : (0 : Int) ≤ (k : Int) := by omega
        have q1 : (k : Int) < 4 := by omega
        have HF := hid hf
        clear hf her k2
        go_upto_region 8 with (fail)
        go_region_held3 (fun w' => w'.cell? ⟨r, 0, none⟩ = some (.pointer (some ⟨aa, 0, none⟩)) ∧ w'.cell? ⟨pb, 0, none⟩ = some (.int .i64 t)) (first | (with_reducible exact ⟨k0, k1⟩) | (with_reducible exact hS) | exact ⟨farc nr _ hS.1, farc np _ hS.2⟩ | go_keep) ((go_at_call 118; refine (hfr.out _ (by rfl)).mono ?_; rintro e w2 ⟨rfl, hS, hbw⟩; have hfb := hI.out.2.1.below hbw hI.out.2.1.lt; have hfc := four_at (fun i => .string (asF x (strOf xs s) t k i)) hfb hk4; have hff := hfb.frozen k))
        have HB := hid hbw
        clear hbw hfb hfc hff hS hfr k0 k1 k3 k4 el
        go_wp2_with fail
        go_roundw
        case rel =>
          refine ⟨k + 1, by omega, by go_num, ?_, ?_, hI.out.2.2⟩
          · have hG := hI.out.1.below HB.out
            exact ⟨hG.1.setCell (p := ⟨lb, k, none⟩) hI.out.2.2 _, hG.2.1.far np _, hG.2.2⟩
          · have m := (hI.out.2.1.below HB.out hI.out.2.1.lt).set_ k (.string f)
            rw [upd4s _ k hk4, show upd (asF x (strOf xs s) t k) k f = asF x (strOf xs s) t (k + 1) by rw [HF.out]; exact asF_succ x (strOf xs s) t k] at m
            exact m
        case measure => simp [intOf]; omega
      · obtain rfl : k = 4 := by omega
        obtain ⟨k0, k1, k2, k3, k4⟩ := hI.out.1.cells H.out.2.1
        rw [← HA.out] at k0
        have hg := H.out.2.2.2.2.1
        have hF : ∀ n, n < 4 → n ≠ i → asF x (strOf xs s) t 4 n = (fragsS s).getD n ⟨#[]⟩ := fun n hn hne => by
          unfold asF
          rw [if_pos hn, hg.here n hn (by simpa using Ne.symm hne)]
        have hgv := give_back s (four (asF x (strOf xs s) t 4)) i rfl hi4 fun n hn hne => by
          rw [four_get _ hn, hF n hn hne]
          have h : n < (fragsS s).length := by rw [fragsS_len]; exact hn
          simp [List.getD, h]
        obtain ⟨g, hgd⟩ : ∃ g, g = (fragsS s).getD i ⟨#[]⟩ := ⟨_, rfl⟩
        have hgg : mkB (longN s.size) (xorB (four (asF x (strOf xs s) t 4)) i 4) = g := by
          have h : i < (fragsS s).length := by rw [fragsS_len]; exact hi4
          rw [List.getElem?_eq_getElem h, Option.some.injEq] at hgv
          rw [hgv, hgd]
          simp [List.getD, h]
        have hh : Holds wr wr.heap.size (some ⟨lb, 0, none⟩) (strs (four (asF x (strOf xs s) t 4))) := Holds.of_blk hI.out.2.1 0 4 hI.out.2.1.lt
        have hgive := Give_ok (c := 4) (m := longN s.size) (four (asF x (strOf xs s) t 4)) i hh rfl hi4 (by have := hg.s2; unfold longN; omega) fun n u hu hne => by
          have hn : n < 4 := (List.getElem?_eq_some_iff.1 hu).1
          rw [four_get _ hn, hF n hn (by omega)] at hu
          cases hu
          exact frag_size s hn
        rw [hgg] at hgive
        have HGV := hid hgive
        have HGD := hid hgd
        clear hg hF hgv hgg hh hgive hgd
        go_wp2_with fail
        refine HGV.out.mono ?_
        rintro e w2 ⟨rfl, hb2⟩
        have HG3 := hid (hI.out.1.below hb2)
        clear hb2 HGV k0 k1 k2 k3 k4
        obtain ⟨k0, k1, k2, k3, k4⟩ := HG3.out.cells H.out.2.1
        rw [← HA.out] at k0
        have hset : Hid (∀ W2, W2 = w2.drew → Calls Tryz.prog 51 #[.pointer (some ⟨aa, 0, none⟩), .int .i64 t, .int .i64 i, .string g] W2 fun e w' => e = .returned (.int .i64 0) ∧ (w'.cell? ⟨r, 0, none⟩ = some (.pointer (some ⟨aa, 0, none⟩)) ∧ w'.cell? ⟨pb, 0, none⟩ = some (.int .i64 t) ∧ w'.cell? ⟨pb, 1, none⟩ = some (.int .i64 i)) ∧ Hid (∃ T', Arr B T' w' (gvX x t i s) ∧ Goes T w T' w')) := by
          show ∀ W2, _
          rintro W2 rfl
          have hG4 := HG3.out.below (w' := w2.drew) (Below.refl _ _).drew
          obtain ⟨h, hr, hb, hj, hg, hjL, ho, ht4, hi⟩ := H.out
          have on4 : onN (strOf xs s) t i = 4 := (hb.on4 s t i hi4).2 hi
          rw [HA.out, HGD.out]
          have hs := aSet_up (h.below hG4.1) hjL ho ht4 hi4 ((fragsS s).getD i ⟨#[]⟩) (by rw [frag_size s hi4]; have := hg.s2; unfold longN; omega) (by rw [on4]; exact hb.up.1) (by rw [on4]; exact hb.up.2) (by rw [on4, hb.C4.1]; have := hb.six; have := hb.tm; omega) (by
            rw [on4]
            unfold look
            rw [Option.map_eq_none_iff, List.find?_eq_none]
            intro f hf
            have := hb.C4.2 f hf
            simp [isAt]
            omega)
          rw [on4] at hs
          refine hs.mono ?_
          rintro e w' ⟨he, T', m1, m2⟩
          have hr3 := (hr.below hG4.1).goes m2
          have hTp : T pb = 0 := h.fits.zero hG4.2.2
          have hp3 := (m2.only.block pb hG4.2.1.lt (by simp [hTp])).trans hG4.2.1
          exact ⟨he, ⟨(hr3.1.cell 0).trans rfl, (Blk.cell (w := w') hp3 0).trans rfl, (Blk.cell (w := w') hp3 1).trans rfl⟩, T', m1, (Goes.below hG4.1).trans m2⟩
        go_upto_region 13 with (fail)
        go_region_held3 (fun w' => w'.cell? ⟨r, 0, none⟩ = some (.pointer (some ⟨aa, 0, none⟩)) ∧ w'.cell? ⟨pb, 0, none⟩ = some (.int .i64 t) ∧ w'.cell? ⟨pb, 1, none⟩ = some (.int .i64 i)) (first | (with_reducible exact ⟨k0, k1, k2⟩) | (with_reducible exact hS) | go_keep) ((go_at_call 51; refine (hset.out _ (by rfl)).mono ?_; rintro e w3 ⟨rfl, hS, hE⟩))
        clear hS hset k0 k1 k2
        go_wp2_with fail
        go_ret
        exact ⟨rfl, hE.out⟩
end
end Go.Proofs.YtopbojifllnckaaGreatDoor
namespace Go.Proofs.YtopbojifllnckaaGreatDoor
open Go.RowKit
attribute [local irreducible] wpQuiet
section
variable {x : X} {xs : List Int} {ix : Nat → Nat} {S : List ByteArray} {t : Nat}
theorem srvGet_other {dn ls : Bool} {C : List Fr} {st i st' i' : Nat} (b : ByteArray) (h : ¬ (st' = st ∧ i' = i)) : srvGet dn ls (C ++ [⟨st', i', b⟩]) st i = srvGet dn ls C st i := by
  unfold srvGet
  rw [look_other C b h]
/-- A fragment that stands above all goes to the end. -/
theorem InOrder.snoc {l : List Fr} (h : InOrder l) {f : Fr} (hf : ∀ g ∈ l, g.st < f.st) : InOrder (l ++ [f]) := by
  intro k a b ha hb
  have hk : k + 1 < (l ++ [f]).length := (List.getElem?_eq_some_iff.1 hb).1
  rw [List.length_append, List.length_singleton] at hk
  rw [List.getElem?_append_left (by omega)] at ha
  by_cases c : k + 1 < l.length
  · rw [List.getElem?_append_left c] at hb
    exact h k a b ha hb
  · rw [List.getElem?_append_right (by omega), show k + 1 - l.length = 0 by omega] at hb
    cases hb
    exact hf a (List.mem_of_getElem? ha)
/-- The spare bears one more. -/
theorem OkL.give {x : X} (h : OkL x) {j i : Nat} {b : ByteArray} {t : SS} (hl : x.ls 4 = false) (h5 : (x.C 4).length ≤ 5) (hs : ∀ f ∈ x.C 4, f.st < j) (ht : x.L[j]? = some t) (h2 : t.st = 2) (ho : OkS t) (hj : j < 4096) (hi : i < 4) (hn : onN t j i = 4) : OkL { x with C := upd x.C 4 (x.C 4 ++ [⟨j, i, b⟩]) } := by
  intro n hn5
  have hh := h n hn5
  by_cases e : n = 4
  · subst e
    have e1 : lstX x 4 = x.C 4 := by unfold lstX; rw [hl]; rfl
    have e2 : lstX { x with C := upd x.C 4 (x.C 4 ++ [⟨j, i, b⟩]) } 4 = x.C 4 ++ [⟨j, i, b⟩] := by
      unfold lstX
      show (if x.ls 4 = true then [] else upd x.C 4 _ 4) = _
      rw [hl, upd_same]
      rfl
    rw [e1] at hh
    rw [e2]
    refine ⟨by rw [List.length_append, List.length_singleton]; omega, hh.2.1.snoc hs, fun f hf => ?_⟩
    rw [List.mem_append, List.mem_singleton] at hf
    rcases hf with h1 | rfl
    · exact hh.2.2 f h1
    · exact ⟨t, ht, h2, ho, hj, hi, hn⟩
  · have e2 : lstX { x with C := upd x.C 4 (x.C 4 ++ [⟨j, i, b⟩]) } n = lstX x n := by
      unfold lstX
      show (if x.ls n = true then [] else upd x.C 4 _ n) = _
      rw [upd_other _ _ e]
    rw [e2]
    exact hh
/-- One more is given back. -/
theorem Rb.next (h : Rb x xs ix S t) {s : ByteArray} (hj : S[t]? = some s) : Rb (gvX x t (ix t) s) xs ix S (t + 1) := by
  have htl := (List.getElem?_eq_some_iff.1 hj).1
  refine ⟨h.L, h.six, htl, h.ok, h.ix4, h.at4, h.on4, h.up, ⟨?_, fun f hf => ?_⟩, fun j s' hj' => ?_,
    h.ol.give h.up.2 (by rw [h.C4.1]; have := h.six; omega) h.C4.2 (h.at_ hj) rfl (h.ok s) (by have := h.six; omega) (h.ix4 t) ((h.on4 s t (ix t) (h.ix4 t)).2 rfl)⟩
  · show (upd x.C 4 (x.C 4 ++ [_]) 4).length = _
    rw [upd_same, List.length_append, h.C4.1]
    rfl
  · have hf2 : f ∈ upd x.C 4 (x.C 4 ++ [⟨t, ix t, (fragsS s).getD (ix t) ⟨#[]⟩⟩]) 4 := hf
    rw [upd_same, List.mem_append, List.mem_singleton] at hf2
    rcases hf2 with h1 | rfl
    · have := h.C4.2 f h1; omega
    · show t < t + 1; omega
  · have hgood := h.good j s' hj'
    have hother : ∀ i, i < 4 → ¬ (t = j ∧ ix t = i) → fragX (gvX x t (ix t) s) (strOf xs s') j i = fragX x (strOf xs s') j i := by
      intro i hi hne
      unfold fragX
      show srvGet (x.dn _) (x.ls _) (upd x.C 4 _ _) j i = _
      by_cases e : onN (strOf xs s') j i = 4
      · rw [e, upd_same]
        exact srvGet_other _ hne
      · rw [upd_other _ _ e]
    by_cases e : j = t
    · subst e
      rw [hj] at hj'
      cases hj'
      rw [if_neg (by omega)] at hgood
      rw [if_pos (by omega)]
      refine ⟨hgood.ln, hgood.s1, hgood.s2, fun i hi _ => ?_, fun i hi => by cases hi⟩
      by_cases e2 : i = ix j
      · subst e2
        have e4 : onN (strOf xs s) j (ix j) = 4 := (h.on4 s j (ix j) (h.ix4 j)).2 rfl
        have hC : (gvX x j (ix j) s).C 4 = x.C 4 ++ [⟨j, ix j, (fragsS s).getD (ix j) ⟨#[]⟩⟩] := by
          show upd x.C 4 _ 4 = _
          exact upd_same _ _ _
        have hd : (gvX x j (ix j) s).dn 4 = false := h.up.1
        have hl : (gvX x j (ix j) s).ls 4 = false := h.up.2
        have hn : look (x.C 4) j (ix j) = none := by
          unfold look
          rw [Option.map_eq_none_iff, List.find?_eq_none]
          intro f hf
          have := h.C4.2 f hf
          simp [isAt]
          omega
        unfold fragX
        rw [e4, hC, hd, hl]
        unfold srvGet
        rw [if_neg (by decide), look_append _ _ _ _ hn]
        rfl
      · rw [hother i hi (by omega)]
        exact hgood.here i hi (by intro c; exact e2 (by injection c with c; exact c.symm))
    · have hbad : (if j < t + 1 then none else some (ix j)) = (if j < t then none else some (ix j)) := by
        by_cases c : j < t
        · rw [if_pos c, if_pos (by omega)]
        · rw [if_neg c, if_neg (by omega)]
      rw [hbad]
      refine ⟨hgood.ln, hgood.s1, hgood.s2, fun i hi hb => ?_, fun i hi => ?_⟩
      · rw [hother i hi (by omega)]
        exact hgood.here i hi hb
      · have := hgood.gone i hi
        rw [hother i this.1 (by omega)]
        exact this
end
section
variable {B : Nat} {T T' : Nat → Nat} {w w' : World} {x : X} {r : Nat} {xs : List Int} {ix : Nat → Nat} {S : List ByteArray} {t : Nat}
/-- Where Step's loop stands. -/
def StRel (B : Nat) (T : Nat → Nat) (w : World) (x : X) (r : Nat) (xs : List Int) (ix : Nat → Nat) (S : List ByteArray) (t i : Nat) (A : Option Addr) (wr : World) : Prop :=
  ∃ (T3 : Nat → Nat) (C3 : Nat → List Fr), Arr B T3 wr { x with C := C3 } ∧ Goes T w T3 wr ∧ Rb { x with C := C3 } xs ix S (t + i) ∧ Reb T3 wr r x.a 4 ∧ RowK T3 wr A (fromT t S.length)
set_option maxRecDepth 100000 in
set_option maxHeartbeats 3200000 in
theorem Step_ok (h : Arr B T w x) (hr : Reb T w r x.a 4) (hb : Rb x xs ix S t) (n c : Nat) (hc : c = min n (S.length - t)) :
    Calls Tryz.prog 20 #[.pointer (some ⟨r, 0, none⟩), .int .i64 n] w fun e w' => e = .returned (.tuple #[.int .i64 c, .int .i64 0]) ∧ ∃ T' C', Arr B T' w' { x with C := C' } ∧ Goes T w T' w' ∧ Rb { x with C := C' } xs ix S (t + c) ∧ Reb T' w' r x.a 4 := by
  obtain ⟨l, hl⟩ : ∃ l, l = (fromT t S.length).length := ⟨_, rfl⟩
  have hle := Left_ok h hr hb
  rw [← hl] at hle
  have HL := hid hle
  have hcl : c ≤ l := by rw [hl, fromT_len, hc]; omega
  have hm0 : max (n : Int) 0 = n := by omega
  have hm1 : min (n : Int) (l : Int) = c := by rw [hl, fromT_len, hc]; omega
  have hl6 : l ≤ 6 := by rw [hl, fromT_len]; have := hb.six; omega
  have H := hid (And.intro h (And.intro hr (And.intro hb (And.intro hl hc))))
  clear h hr hb hl hc hle
  go_enter Tryz.func20, Tryz.ntmps20
  go_wp2_with fail
  refine HL.out.mono ?_
  rintro e w1 ⟨v, rfl, hv, hbb⟩
  obtain ⟨A, c1, rfl⟩ := own_form hv
  have hlc := (own_holdsS hv).2.1
  have H0 : Hid (StRel B T w x r xs ix S t 0 A w1) := ⟨T, x.C, H.out.1.below hbb, Goes.below hbb, H.out.2.2.1, H.out.2.1.below hbb, RowK.own hv fun k hk => H.out.1.fits.zero hk⟩
  clear hv hbb HL
  go_wp2_with fail
  go_loopw [18] (fun v18 wr => ∃ i : Nat, i ≤ c ∧ v18 = .int .i64 i ∧ Hid (StRel B T w x r xs ix S t i A wr)) (fun v18 _ => c - (intOf v18).toNat)
  case atStart => exact ⟨0, by omega, rfl, H0⟩
  case round =>
    obtain ⟨i, hi, rfl, hI⟩ := hrel
    obtain ⟨T3, C3, m1, m2, m3, m4, m5⟩ := hI.out
    by_cases hic : i < c
    · have htl : t + i < S.length := by
        have h1 := H.out.2.2.2.2
        have h2 := H.out.2.2.1.tm
        omega
      obtain ⟨ad, rfl, _, _, hcs⟩ := m5 (by rw [fromT_len]; omega)
      have e2 : wr.cell? (ad.add i) = some (.int .i64 ((t + i : Nat) : Int)) := hcs i _ (by simp only [nums, List.getElem?_map, fromT_get htl]; rfl)
      obtain ⟨j, hj⟩ : ∃ j, j = t + i := ⟨_, rfl⟩
      rw [← hj] at e2
      have hp0 := Rb.place m1 m4 m3 htl
      rw [← hj] at hp0
      rw [show plcA (badAt ix j j) j = (j : Int) by simp [badAt, plcA], show plcB (badAt ix j j) (ix j) = (ix j : Int) by simp [badAt, plcB]] at hp0
      have HP := hid hp0
      have HM := hid (And.intro m1 (And.intro m2 (And.intro m3 (And.intro m4 (And.intro m5 (And.intro hj htl))))))
      have i0 : (0 : Int) ≤ (i : Int) := by omega
      have i1 : (i : Int) < (l : Int) := by omega
      have i2 : (i : Int) < (c : Int) := by omega
      obtain ⟨jx, hjx⟩ : ∃ jx, jx = ix j := ⟨_, rfl⟩
      rw [← hjx] at HP
      have HJX := hid hjx
      clear m1 m2 m3 m4 m5 hj hp0 hjx hcs htl
      go_wp2_with fail
      refine HP.out.mono ?_
      rintro e w2 ⟨rfl, hb2⟩
      have hg0 : Hid (Calls Tryz.prog 58 #[.pointer (some ⟨r, 0, none⟩), .agg #[.int .i64 j, .int .i64 jx]] w2 fun e w' => e = .returned (.int .i64 0) ∧ StRel B T w x r xs ix S t (i + 1) (some ad) w') := by
        obtain ⟨m1, m2, m3, m4, m5, hj, htl⟩ := HM.out
        have hs : S[t + i]? = some S[t + i] := List.getElem?_eq_getElem htl
        rw [HJX.out, hj]
        refine (give_ok (m1.below hb2) (m4.below hb2) m3 hs).mono ?_
        rintro e w' ⟨he, T4, k1, k2⟩
        exact ⟨he, T4, _, k1, (m2.trans (Goes.below hb2)).trans k2, m3.next hs, (m4.below hb2).goes k2, (m5.goes (Goes.below (T := T3) hb2)).goes k2⟩
      clear hb2 HP e2
      go_wp2_with fail
      refine hg0.out.mono ?_
      rintro e w3 ⟨rfl, hS3⟩
      have HS3 := hid hS3
      clear hS3 hg0
      go_wp2_with fail
      go_roundw
      case rel => exact ⟨i + 1, by omega, by go_num, HS3⟩
      case measure => simp [intOf]; omega
    · obtain rfl : i = c := by omega
      have HM := hid (And.intro m1 (And.intro m2 (And.intro m3 m4)))
      clear m1 m2 m3 m4 m5
      go_wp2_with fail
      go_ret2
      exact ⟨rfl, T3, C3, HM.out.1, HM.out.2.1, HM.out.2.2.1, HM.out.2.2.2⟩
end
end Go.Proofs.YtopbojifllnckaaGreatDoor
namespace Go.Proofs.YtopbojifllnckaaGreatDoor
open Go.RowKit
attribute [local irreducible] wpQuiet
section
variable {B : Nat} {T T' : Nat → Nat} {w w' : World} {x : X} {r : Nat} {xs : List Int} {ix : Nat → Nat} {S : List ByteArray}
set_option maxRecDepth 100000 in
set_option maxHeartbeats 3200000 in
theorem Finish_ok (h : Arr B T w x) (hr : Reb T w r x.a 4) (hb : Rb x xs ix S S.length) (hoq : OkQ x) (hf : x.G.fil = true) (hep : 0 ≤ x.G.ep ∧ x.G.ep < 1000) :
    Calls Tryz.prog 21 #[.pointer (some ⟨r, 0, none⟩)] w fun e w' => e = .returned (.int .i64 0) ∧ ∃ T', Arr B T' w' { x with q := nextQ x.q (15 : Nat), f := nextQ x.q (15 : Nat), N := x.N + 1, G := { x.G with ep := x.G.ep + 1, hole := -1, fil := false, gone := -1 } } ∧ Goes T w T' w' := by
  obtain ⟨y, hy⟩ : ∃ y : X, y = { x with q := nextQ x.q (15 : Nat), f := nextQ x.q (15 : Nat), N := x.N + 1, G := { x.G with ep := x.G.ep + 1, hole := -1, fil := false, gone := -1 } } := ⟨_, rfl⟩
  rw [← hy]
  obtain ⟨a, ha⟩ : ∃ a, a = x.a := ⟨_, rfl⟩
  obtain ⟨ep, hpe⟩ : ∃ ep, ep = x.G.ep := ⟨_, rfl⟩
  have e1 : w.cell? ⟨r, 1, none⟩ = some (.int .i64 4) := (hr.1.cell 1).trans rfl
  have hrl := hr.1.lt
  have hle := Left_ok h hr hb
  rw [fromT_low (Nat.le_refl _)] at hle
  have HL := hid hle
  have H := hid (And.intro h (And.intro hr (And.intro hoq (And.intro hf (And.intro hep (And.intro hy (And.intro ha hpe)))))))
  clear h hr hb hoq hf hep hy ha hpe hle
  go_enter Tryz.func21, Tryz.ntmps21
  go_wp2_with fail
  refine HL.out.mono ?_
  rintro e w1 ⟨v, rfl, hv, hbb⟩
  obtain ⟨A, c, rfl⟩ := own_form hv
  have HB := hid hbb
  clear hv hbb HL
  go_upto_region 5 with (fail)
  obtain ⟨h, hr, hoq, hf, hep, hy, ha, hpe⟩ := H.out
  have hr1 := hr.below HB.out
  have e0 : w1.cell? ⟨r, 0, none⟩ = some (.pointer (some ⟨a, 0, none⟩)) := by rw [ha]; exact (hr1.1.cell 0).trans rfl
  have hrl1 := hr1.1.lt
  have HE : Hid (∀ W2, W2 = w1.drew → Calls Tryz.prog 53 #[.pointer (some ⟨r, 0, none⟩)] W2 fun e w' => e = .returned (.int .i64 ep) ∧ W2 = w') := by
    show ∀ W2, _
    rintro W2 rfl
    have hb2 : Below w.heap.size w w1.drew := HB.out.drew
    have := rEpoch (h.below hb2) (hr.below hb2)
    rw [← hpe] at this
    exact this
  have HD : Hid (∀ W2, W2 = (w1.alloc (.cells #[.int .i64 ep] 3)).drew → Calls Tryz.prog 49 #[.pointer (some ⟨a, 0, none⟩), .int .i64 15, .int .i64 7, .slice (some ⟨w1.heap.size, 0, none⟩) 1 1] W2 fun e w' => ∃ (A' : Option Addr) (c' : Nat), e = .returned (.tuple #[.int .i64 0, .slice A' 1 c']) ∧ w'.cell? ⟨r, 0, none⟩ = some (.pointer (some ⟨a, 0, none⟩)) ∧ Hid (∃ T', Arr B T' w' y ∧ Goes T w T' w')) := by
    show ∀ W2, _
    rintro W2 rfl
    have hb2 : Below w.heap.size w (w1.alloc (.cells #[.int .i64 ep] 3)).drew := (HB.out.alloc HB.out.size _).drew
    have hh2 := holds_made w1 [ep] 3 #[.int .i64 ep] rfl
    rw [ha, hy, hpe]
    rw [hpe] at hh2 hb2
    refine (doDone (w := (w1.alloc (.cells #[.int .i64 x.G.ep] 3)).drew) (c := 1) (h.below hb2) hoq hf hep hh2).mono ?_
    rintro e w' ⟨A', c', T', h1, h2, h3, h4, h5⟩
    have hr2 := (hr.below hb2).goes h4
    exact ⟨A', c', h1, (hr2.1.cell 0).trans rfl, T', h3, (Goes.below hb2).trans h4⟩
  clear h hr hoq hf hep hy ha hpe hr1
  go_region_held3 (fun w' => w'.cell? ⟨r, 0, none⟩ = some (.pointer (some ⟨a, 0, none⟩))) (first | (with_reducible exact e0) | (with_reducible exact hS) | exact cellA e0 _ | go_keep) ((first
    | (go_at_call 53; refine (HE.out _ (by rfl)).mono ?_; rintro e w2 ⟨rfl, rfl⟩)
    | (go_at_call 49; refine (HD.out _ (by rfl)).mono ?_; rintro e w2 ⟨A', c', rfl, hS, hI⟩)))
  clear HE HD e0 hS
  go_wp2_with fail
  go_ret
  exact ⟨rfl, hI.out⟩
end
end Go.Proofs.YtopbojifllnckaaGreatDoor
namespace Go.Proofs.YtopbojifllnckaaGreatDoor
open Go.RowKit
attribute [local irreducible] wpQuiet
section
variable {B : Nat} {T T' : Nat → Nat} {w w' : World} {x : X} {xs : List Int} {ix : Nat → Nat} {S : List ByteArray}
set_option maxRecDepth 100000 in
set_option maxHeartbeats 3200000 in
theorem Stripes_ok (h : Arr B T w x) (hb : Rb x xs ix S S.length) (hL : OkL x) :
    Calls Tryz.prog 22 #[.pointer (some ⟨x.a, 0, none⟩)] w fun e w' => e = .returned (.slice none 0 0) ∧ Below w.heap.size w w' := by
  obtain ⟨a, ha⟩ : ∃ a, a = x.a := ⟨_, rfl⟩
  obtain ⟨gm, hgm⟩ : ∃ gm, gm = x.gm := ⟨_, rfl⟩
  obtain ⟨n, hn⟩ : ∃ n, n = S.length := ⟨_, rfl⟩
  have hm := aMan h
  have hs := aStripes h (by rw [hb.len]; have := hb.six; omega) 2 hb.two
  rw [hb.len, ← hn] at hs
  rw [← ha, ← hgm] at hm
  rw [← hgm] at hs
  have HM := hid hm
  have HS := hid hs
  have hn6 : n ≤ 6 := by rw [hn]; exact hb.six
  have H := hid (And.intro h (And.intro hb (And.intro hL (And.intro ha hn))))
  rw [← ha]
  clear h hb hL ha hgm hn hm hs
  go_enter Tryz.func22, Tryz.ntmps22
  go_wp2_with fail
  refine HM.out.mono ?_
  rintro e w0 ⟨rfl, rfl⟩
  go_wp2_with fail
  refine HS.out.mono ?_
  rintro e w1 ⟨v, rfl, hv, hbb⟩
  obtain ⟨A, c, rfl⟩ := own_form hv
  have hnc := (own_holdsS hv).2.1
  have HA : Hid (0 < n → ∃ ad, A = some ad ∧ ∀ k, k < n → w1.cell? (ad.add k) = some (.int .i64 k)) := fun hn0 => by
    obtain ⟨ad, rfl, _, hcs⟩ := (own_holdsS hv).1 (by rw [nums_length, F.upto_len]; exact hn0)
    exact ⟨ad, rfl, fun k hk => hcs k _ (by simp [nums, F.upto, hk])⟩
  have HB := hid hbb
  clear hv hbb HM HS
  go_wp2_with fail
  go_loopw [3, 12] (fun v3 v12 wr => ∃ i : Nat, i ≤ n ∧ v12 = .int .i64 i ∧ v3 = .slice none 0 0 ∧ Hid (Below w1.heap.size w1 wr)) (fun _ v12 _ => n - (intOf v12).toNat)
  case atStart => exact ⟨0, by omega, rfl, rfl, Below.refl _ _⟩
  case round =>
    obtain ⟨i, hi, rfl, rfl, hI⟩ := hrel
    obtain ⟨h, hb, hL, ha, hn⟩ := H.out
    have h0 : Below w.heap.size w wr := HB.out.trans (hI.out.mono HB.out.size)
    by_cases hin : i < n
    · obtain ⟨ad, rfl, hcs⟩ := HA.out (by omega)
      have e2 : wr.cell? (ad.add i) = some (.int .i64 i) := (hI.out.cell (World.block_lt_of_cell? w1 _ (hcs i hin))).trans (hcs i hin)
      have hs : S[i]? = some (S[i]'(by omega)) := List.getElem?_eq_getElem (by omega)
      have hgd := hb.good i _ hs
      rw [if_pos (by omega)] at hgd
      have hst := fstripe_ok (h.below h0) (hb.at_ hs) rfl (hb.ok _) (by omega) hgd
      rw [← ha] at hst
      have HST := hid hst
      have H0 := hid h0
      have i0 : (0 : Int) ≤ (i : Int) := by omega
      have i1 : (i : Int) < (n : Int) := by omega
      clear h hb hL ha hn h0 hcs hs hgd hst
      go_wp2_with fail
      refine HST.out.mono ?_
      rintro e w2 ⟨rfl, hb2⟩
      have HB2 := hid (hI.out.trans (hb2.mono hI.out.size))
      clear hb2 HST e2
      go_wp2_with fail
      refine ⟨⟨i + 1, by omega, by go_num, rfl, HB2⟩, ?_⟩
      simp [intOf]
      omega
    · have hst := strays_ok (h.below h0) hL
      rw [← ha] at hst
      have HST := hid hst
      have H0 := hid h0
      obtain rfl : i = n := by omega
      clear h hb hL ha hn h0 hst
      go_wp2_with fail
      refine HST.out.mono ?_
      rintro e w2 ⟨rfl, hb2⟩
      have HB2 := hid (H0.out.trans (hb2.mono H0.out.size))
      clear hb2 HST
      go_wp2_with fail
      go_ret
      exact ⟨rfl, HB2.out⟩
end
end Go.Proofs.YtopbojifllnckaaGreatDoor
