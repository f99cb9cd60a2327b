/- array: Write, a text that fits. -/
import Derived.Test.YtopbojifllnckaaGreatDoorG36
namespace Go.Proofs.YtopbojifllnckaaGreatDoor
open Go.RowKit
attribute [local irreducible] wpQuiet
section
variable {B : Nat} {T : Nat → Nat} {w w' : World} {x : X}
/-- An array behind a Write of a text of n bytes. -/
def wrX (x : X) (s : ByteArray) : X := { x with q := nextQ (nextQ x.q (3 : Nat)) (3 : Nat), f := nextQ (nextQ x.q (3 : Nat)) (3 : Nat), N := x.N + 3, L := x.L ++ [⟨2, s.size, x.G.xs⟩], C := putC x.dn x.C ⟨1, s.size, x.G.xs⟩ x.L.length (fragsS s) 4 }
/-- What a Write asks of the servers. -/
structure OkW (x : X) (t : SS) : Prop where
  ep : x.G.ep = 1
  grp : grpB x.G.xs = true
  five : ∀ y ∈ x.G.xs, 0 ≤ y ∧ y < 5
  L : x.L.length < 100
  C : ∀ n, (x.C n).length ≤ 6
  new : ∀ n, ∀ f ∈ x.C n, f.st ≠ x.L.length
  ls : ∀ n, x.ls n = false
  ref : refu x.dn t x.L.length 4 ≤ 1
theorem OkQ.next {x : X} (h : OkQ x) {y : X} (cl : Nat) (hN : y.N ≤ 1000) (hq : y.q = nextQ x.q cl) (hf : y.f = nextQ x.q cl) (hc : x.q cl < 1000) : OkQ y := by
  refine ⟨hN, by rw [hq, hf], fun k => ?_, fun k => ?_⟩
  · rw [hq]
    unfold nextQ
    split
    · have := h.q0 cl; omega
    · exact h.q0 k
  · rw [hq]
    unfold nextQ
    split
    · omega
    · exact h.qa k
set_option maxRecDepth 100000 in
set_option maxHeartbeats 3200000 in
theorem aWrite_ok (h : Arr B T w x) (ho : OkQ x) (s : ByteArray) (hs1 : 1 ≤ s.size) (hs2 : s.size ≤ 1536) (hw : OkW x ⟨1, s.size, x.G.xs⟩) (hq3 : x.q (3 : Nat) < 900) (hN : x.N < 900) :
    Calls Tryz.prog 15 #[.pointer (some ⟨x.a, 0, none⟩), .int .i64 3, .string s, .int .i64 (-1)] w fun e w' => e = .returned (.tuple #[.int .i64 x.L.length, .int .i64 0]) ∧ ∃ T', Arr B T' w' (wrX x s) ∧ Goes T w T' w' := by
  have hm := hid (aMost h)
  have hl := h.alt
  obtain ⟨a, ha⟩ : ∃ a, a = x.a := ⟨_, rfl⟩
  obtain ⟨j, hj⟩ : ∃ j, j = x.L.length := ⟨_, rfl⟩
  have hj100 : j < 100 := by rw [hj]; exact hw.L
  obtain ⟨y1, hy1⟩ : ∃ y1 : X, y1 = { x with q := nextQ x.q (3 : Nat), f := nextQ x.q (3 : Nat), N := x.N + 1, L := x.L ++ [⟨1, s.size, x.G.xs⟩] } := ⟨_, rfl⟩
  obtain ⟨W, hW⟩ : ∃ W, W = w.alloc (.cells #[.int .i64 s.size] 3) := ⟨_, rfl⟩
  have hb0 : Below w.heap.size w W := by rw [hW]; exact (Below.refl _ _).alloc (Nat.le_refl _) _
  have hbeg : Hid (Calls Tryz.prog 49 #[.pointer (some ⟨a, 0, none⟩), .int .i64 3, .int .i64 1, .slice (some ⟨w.heap.size, 0, none⟩) 1 1] W fun e w' => ∃ (A' : Option Addr) (c' : Nat) (T' : Nat → Nat), e = .returned (.tuple #[.int .i64 0, .slice A' 2 c']) ∧ 2 ≤ c' ∧ Arr B T' w' y1 ∧ Goes T w T' w' ∧ RowK T' w' A' [(j : Int), 1]) := by
    have hh : Holds W W.heap.size (some ⟨w.heap.size, 0, none⟩) (nums [(s.size : Int)]) := by rw [hW]; exact holds_made w [(s.size : Int)] 3 _ rfl
    rw [ha, hj, hy1]
    refine (doBegin (h.below hb0) ho hw.ep (by have := hw.L; omega) hw.grp s.size (by omega) hh).mono ?_
    rintro e w' ⟨A', c', T', h1, h2, h3, h4, h5⟩
    exact ⟨A', c', T', h1, h2, h3, (Goes.below hb0).trans h4, h5⟩
  have d1 : decide ((1536 : Int) < (s.size : Int)) = false := by simp; omega
  have d2 : s.toList.isEmpty = false := not_empty (by omega)
  have HH := hid (And.intro ho (And.intro hw (And.intro hq3 (And.intro hN (And.intro hs1 (And.intro hs2 (And.intro ha (And.intro hj hy1))))))))
  rw [← ha] at hm hl ⊢
  rw [← hj]
  clear h ho hw hq3 hN hs1 hs2 ha hj hy1 hb0
  go_enter Tryz.func15, Tryz.ntmps15
  go_wp2_with fail
  refine hm.out.mono ?_
  rintro e w0 ⟨rfl, rfl⟩
  go_upto_region 7 with (fail)
  go_wp2_with (rw [← hW])
  clear hW
  refine hbeg.out.mono ?_
  rintro e w1 ⟨A1, c1, T1, rfl, hc1, hA1, hg1, hrow1⟩
  obtain ⟨ad1, rfl, _, _, hcell1⟩ := hrow1 (by simp)
  have e10 : w1.cell? (ad1.add 0) = some (.int .i64 j) := hcell1 0 _ rfl
  have e11 : w1.cell? ad1 = some (.int .i64 j) := by
    have : ad1.add 0 = ad1 := by cases ad1; simp [Addr.add]
    rw [← this]
    exact e10
  have hy1 := HH.out.2.2.2.2.2.2.2.2
  have hya : y1.a = a := by rw [hy1, HH.out.2.2.2.2.2.2.1]
  have e12 : w1.cell? ⟨a, 2, none⟩ = some (.int .i64 4) := by rw [← hya]; exact hA1.acell.2.2
  have hl1 : a < w1.heap.size := by rw [← hya]; exact hA1.alt
  have hen := hid (Encode_ok s HH.out.2.2.2.2.1 HH.out.2.2.2.2.2.1 w1)
  have HA := hid (And.intro hA1 hg1)
  have HY := hid (And.intro hy1 hya)
  clear hA1 hg1 hrow1 hcell1 hbeg hm hy1 hya
  have dz : (0 : Int) < 2 := by omega
  go_wp2_with fail
  refine hen.out.mono ?_
  rintro e w2 ⟨v, rfl, hv, hb2⟩
  obtain ⟨A2, c2, rfl⟩ := own_form hv
  have hmc := (own_holdsS hv).2.1
  have HF : Hid (WrRel B T w y1 (putC x.dn x.C ⟨1, s.size, x.G.xs⟩ j (fragsS s) 0) A2 (fragsS s) w2) := by
    refine ⟨T1, ?_, HA.out.2.trans (Goes.below hb2), RowV.own hv fun k hk => HA.out.1.fits.zero hk⟩
    have e : ({ y1 with C := putC x.dn x.C ⟨1, s.size, x.G.xs⟩ j (fragsS s) 0 } : X) = y1 := by
      rw [HY.out.1]
      rfl
    rw [e]
    exact HA.out.1.below hb2
  clear hv hb2 hen e10 e11 e12 HA
  go_wp2_with fail
  go_loopw [13, 14, 71] (fun v13 v14 v71 wr => ∃ i : Nat, i ≤ 4 ∧ v71 = .int .i64 i ∧ v13 = .int .i64 ((i + 1 : Nat) : Int) ∧ v14 = .int .i64 (refu x.dn ⟨1, s.size, x.G.xs⟩ j i) ∧ Hid (WrRel B T w y1 (putC x.dn x.C ⟨1, s.size, x.G.xs⟩ j (fragsS s) i) A2 (fragsS s) wr)) (fun _ _ v71 _ => 4 - (intOf v71).toNat)
  case atStart => exact ⟨0, by omega, rfl, rfl, rfl, HF⟩
  case round =>
    obtain ⟨i, hi, rfl, rfl, rfl, hI⟩ := hrel
    by_cases hi4 : i < 4
    · obtain ⟨T3, hA, hg, hR⟩ := hI.out
      have hlen : (fragsS s).length = 4 := fragsS_len s
      obtain ⟨ad2, rfl, hab, hz, hcs⟩ := hR (by rw [strs_length, hlen]; omega)
      obtain ⟨b, hb⟩ : ∃ b, (fragsS s)[i]? = some b := ⟨_, List.getElem?_eq_getElem (by omega)⟩
      have e2 : wr.cell? (ad2.add i) = some (.string b) := hcs i _ (by simp [strs, hb])
      have hbs : b.size ≤ 512 := by
        rw [fragsS_size s b (List.mem_of_getElem? hb)]
        have := HH.out.2.2.2.2.2.1
        unfold longN
        omega
      have hbD : (fragsS s).getD i ⟨#[]⟩ = b := by simp [List.getD, hb]
      have hyL : y1.L[j]? = some ⟨1, s.size, x.G.xs⟩ := by
        rw [HY.out.1, HH.out.2.2.2.2.2.2.2.1]
        simp
      have hok : OkS ⟨1, s.size, x.G.xs⟩ := ⟨rfl, HH.out.2.1.grp, HH.out.2.1.five⟩
      have hdn : y1.dn = x.dn := by rw [HY.out.1]
      have hls : y1.ls = x.ls := by rw [HY.out.1]
      have hrm : refu x.dn ⟨1, s.size, x.G.xs⟩ j (i + 1) ≤ 1 := by
        have h1 := HH.out.2.1.ref
        rw [← HH.out.2.2.2.2.2.2.2.1] at h1
        exact Nat.le_trans (refu_mono _ _ _ (by omega)) h1
      have q1 : (0 : Int) ≤ (i : Int) := by omega
      have q2 : (i : Int) < 4 := by omega
      by_cases hd : x.dn (onN ⟨1, s.size, x.G.xs⟩ j i) = true
      · have hset := aSet_down hA hyL hok (by omega) hi4 b (by show y1.dn _ = true; rw [hdn]; exact hd)
        rw [show ({ y1 with C := putC x.dn x.C ⟨1, s.size, x.G.xs⟩ j (fragsS s) i } : X).a = a from HY.out.2] at hset
        have HS := hid hset
        have hpc : putC x.dn x.C ⟨1, s.size, x.G.xs⟩ j (fragsS s) (i + 1) = putC x.dn x.C ⟨1, s.size, x.G.xs⟩ j (fragsS s) i := by
          show (if x.dn (onN ⟨1, s.size, x.G.xs⟩ j i) = true then _ else _) = _
          rw [if_pos hd]
        have hrf : refu x.dn ⟨1, s.size, x.G.xs⟩ j (i + 1) = refu x.dn ⟨1, s.size, x.G.xs⟩ j i + 1 := by
          show (if x.dn (onN ⟨1, s.size, x.G.xs⟩ j i) = true then _ else _) = _
          rw [if_pos hd]
        rw [hrf] at hrm
        have HP := hid (And.intro hpc (And.intro hrf (And.intro hA (And.intro hg hR))))
        obtain ⟨rf, hrfe⟩ : ∃ rf, rf = refu x.dn ⟨1, s.size, x.G.xs⟩ j i := ⟨_, rfl⟩
        rw [← hrfe] at hrm ⊢
        have HRF := hid hrfe
        have d3 : decide ((1 : Int) < ((rf + 1 : Nat) : Int)) = false := by simp; omega
        have d4 : (((i + 1 : Nat) : Int) == -1) = false := by simp; omega
        clear hA hg hR hcs hab hb hbs hbD hyL hok hdn hls hd hset hpc hrf hrfe hlen
        go_wp2_with fail
        refine HS.out.mono ?_
        rintro e w3 ⟨rfl, hb3⟩
        have HB3 := hid hb3
        clear hb3 HS e2
        go_wp2_with fail
        go_roundw
        case rel =>
          refine ⟨i + 1, by omega, by go_num, by go_num, ?_, ?_⟩
          · rw [HP.out.2.1, ← HRF.out]
            go_num
          · rw [HP.out.1]
            exact ⟨T3, HP.out.2.2.1.below HB3.out, HP.out.2.2.2.1.trans (Goes.below HB3.out), HP.out.2.2.2.2.goes (Goes.below HB3.out)⟩
        case measure => simp [intOf]; omega
      · have hd' : x.dn (onN ⟨1, s.size, x.G.xs⟩ j i) = false := by simpa using hd
        have hset := aSet_up hA hyL hok (by omega) hi4 b hbs (by show y1.dn _ = false; rw [hdn]; exact hd') (by show y1.ls _ = false; rw [hls]; exact HH.out.2.1.ls _)
          (by show (putC x.dn x.C ⟨1, s.size, x.G.xs⟩ j (fragsS s) i _).length < 11; have := HH.out.2.1.C (onN ⟨1, s.size, x.G.xs⟩ j i); have h2 := putC_len (dn := x.dn) (C := x.C) (t := ⟨1, s.size, x.G.xs⟩) (j := j) (F := fragsS s) (n := onN ⟨1, s.size, x.G.xs⟩ j i) (i := i); omega)
          (by show look (putC x.dn x.C ⟨1, s.size, x.G.xs⟩ j (fragsS s) i _) j i = none; exact putC_look (by rw [HH.out.2.2.2.2.2.2.2.1]; exact HH.out.2.1.new _))
        rw [show ({ y1 with C := putC x.dn x.C ⟨1, s.size, x.G.xs⟩ j (fragsS s) i } : X).a = a from HY.out.2] at hset
        have HS := hid hset
        have hpc : putC x.dn x.C ⟨1, s.size, x.G.xs⟩ j (fragsS s) (i + 1) = upd (putC x.dn x.C ⟨1, s.size, x.G.xs⟩ j (fragsS s) i) (onN ⟨1, s.size, x.G.xs⟩ j i) (putC x.dn x.C ⟨1, s.size, x.G.xs⟩ j (fragsS s) i (onN ⟨1, s.size, x.G.xs⟩ j i) ++ [⟨j, i, b⟩]) := by
          show (if x.dn (onN ⟨1, s.size, x.G.xs⟩ j i) = true then _ else _) = _
          rw [if_neg hd, hbD]
        have hrf : refu x.dn ⟨1, s.size, x.G.xs⟩ j (i + 1) = refu x.dn ⟨1, s.size, x.G.xs⟩ j i := by
          show (if x.dn (onN ⟨1, s.size, x.G.xs⟩ j i) = true then _ else _) = _
          rw [if_neg hd]
        rw [hrf] at hrm
        have HP := hid (And.intro hpc (And.intro hrf (And.intro hA (And.intro hg hR))))
        obtain ⟨rf, hrfe⟩ : ∃ rf, rf = refu x.dn ⟨1, s.size, x.G.xs⟩ j i := ⟨_, rfl⟩
        rw [← hrfe] at hrm ⊢
        have HRF := hid hrfe
        have d3 : decide ((1 : Int) < (rf : Int)) = false := by simp; omega
        have d4 : (((i + 1 : Nat) : Int) == -1) = false := by simp; omega
        clear hA hg hR hcs hab hb hbs hbD hyL hok hdn hls hd hd' hset hpc hrf hrfe hlen
        go_wp2_with fail
        refine HS.out.mono ?_
        rintro e w3 ⟨rfl, T4, hA4, hg4⟩
        have HB3 := hid (And.intro hA4 hg4)
        clear hA4 hg4 HS e2
        go_wp2_with fail
        go_roundw
        case rel =>
          refine ⟨i + 1, by omega, by go_num, by go_num, ?_, ?_⟩
          · rw [HP.out.2.1, ← HRF.out]
          · rw [HP.out.1]
            exact ⟨T4, by have h := HB3.out.1; rw [← HY.out.2] at h; exact h, HP.out.2.2.2.1.trans HB3.out.2, HP.out.2.2.2.2.goes HB3.out.2⟩
        case measure => simp [intOf]; omega
    · obtain rfl : i = 4 := by omega
      obtain ⟨T3, hA, hg, hR⟩ := hI.out
      obtain ⟨W3, hW3⟩ : ∃ W3, W3 = wr.alloc (.cells #[.int .i64 j] 3) := ⟨_, rfl⟩
      have hb3 : Below wr.heap.size wr W3 := by rw [hW3]; exact (Below.refl _ _).alloc (Nat.le_refl _) _
      have hcom : Hid (Calls Tryz.prog 49 #[.pointer (some ⟨a, 0, none⟩), .int .i64 3, .int .i64 2, .slice (some ⟨wr.heap.size, 0, none⟩) 1 1] W3 fun e w' => ∃ (A' : Option Addr) (c' : Nat) (T' : Nat → Nat), e = .returned (.tuple #[.int .i64 0, .slice A' 0 c']) ∧ Arr B T' w' (wrX x s) ∧ Goes T w T' w') := by
        have hh : Holds W3 W3.heap.size (some ⟨wr.heap.size, 0, none⟩) (nums [(j : Int)]) := by rw [hW3]; exact holds_made wr [(j : Int)] 3 _ rfl
        have hoq : OkQ ({ y1 with C := putC x.dn x.C ⟨1, s.size, x.G.xs⟩ j (fragsS s) 4 } : X) := HH.out.1.next 3 (by show y1.N ≤ 1000; rw [HY.out.1]; show x.N + 1 ≤ 1000; have := HH.out.2.2.2.1; omega) (by show y1.q = _; rw [HY.out.1]) (by show y1.f = _; rw [HY.out.1]) (by have := HH.out.2.2.1; omega)
        have hyL : y1.L[j]? = some ⟨1, s.size, x.G.xs⟩ := by
          rw [HY.out.1, HH.out.2.2.2.2.2.2.2.1]
          simp
        have hc := doCommit (c := 1) (hA.below hb3) hoq (by show y1.G.ep = 1; rw [HY.out.1]; exact HH.out.2.1.ep) j ⟨1, s.size, x.G.xs⟩ hyL rfl (by have := HH.out.2.2.2.2.1; show 0 < s.size; omega) (by omega) hh
        rw [show ({ y1 with C := putC x.dn x.C ⟨1, s.size, x.G.xs⟩ j (fragsS s) 4 } : X).a = a from HY.out.2] at hc
        refine hc.mono ?_
        rintro e w' ⟨A', c', T', h1, _, h3, h4, _⟩
        refine ⟨A', c', T', h1, ?_, (hg.trans (Goes.below hb3)).trans h4⟩
        have e : wrX x s = { ({ y1 with C := putC x.dn x.C ⟨1, s.size, x.G.xs⟩ j (fragsS s) 4 } : X) with q := nextQ y1.q (3 : Nat), f := nextQ y1.q (3 : Nat), N := y1.N + 1 + 1, L := y1.L.set j ⟨2, s.size, x.G.xs⟩ } := by
          rw [HY.out.1, HH.out.2.2.2.2.2.2.2.1]
          simp [wrX]
        rw [e]
        rw [← HY.out.2] at h3
        exact h3
      clear hA hg hR hb3
      go_upto_region 27 with (fail)
      go_wp2_with (rw [← hW3])
      clear hW3
      refine hcom.out.mono ?_
      rintro e w4 ⟨A4, c4, T4, rfl, h4, h5⟩
      have HE := hid (And.intro h4 h5)
      clear h4 h5 hcom
      go_wp2_with fail
      go_ret2
      exact ⟨rfl, T4, HE.out.1, HE.out.2⟩
end
end Go.Proofs.YtopbojifllnckaaGreatDoor
