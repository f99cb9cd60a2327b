/- codec.Reader: ints; manager.Answer. manager.ints, manager.Encode. manager.Decode: what was written is read; nothing is refused. -/
import Derived.Test.YtopbojifllnckaaGreatDoorG21
namespace Go.Proofs.YtopbojifllnckaaGreatDoor
open Go.RowKit
attribute [local irreducible] wpQuiet
theorem Only.then_below {S : Nat → Prop} {w w1 w2 : World} (h : Only S w w1) (k : Below w.heap.size w1 w2) : Only S w w2 :=
  ⟨k.os.trans h.os, k.tape.trans h.tape, k.output.trans h.output, Nat.le_trans h.size k.size, fun i hi hs => (k.block i hi).trans (h.block i hi hs)⟩
theorem info3 : (Tryz.prog.info? 3).map (fun i => (i.zero, i.size, i.bytes)) = some (some (.int .i64 0), 1, 8) := by kernel_rfl
theorem vis_ge (L : List Int) : L.length ≤ (vis L).length := by
  induction L with
  | nil => simp [vis]
  | cons a L ih =>
    have := List.length_pos_iff.2 (vi_ne (zz a))
    simp only [vis, List.flatMap_cons, List.length_append, List.length_cons] at ih ⊢
    omega
theorem vis_drop (L : List Int) {j : Nat} (hj : j < L.length) : vis (L.drop j) = vi (zz L[j]) ++ vis (L.drop (j + 1)) := by
  unfold vis
  rw [List.drop_eq_getElem_cons hj, List.flatMap_cons]
theorem nums_snoc (L : List Int) {j : Nat} (hj : j < L.length) : nums (L.take (j + 1)) = nums (L.take j) ++ [.int .i64 L[j]] := by
  unfold nums
  rw [List.take_succ_eq_append_getElem hj, List.map_append]
  rfl
def ListRel (w : World) (g : Nat) (L : List Int) (rest : List UInt8) (j : Nat) (v6 : Value) (wr : World) : Prop :=
  wr.ownsRow w.heap.size 3 1 v6 j (nums (L.take j)) ∧ RdAt wr g (vis (L.drop j) ++ rest) false ∧ Only (· = g) w wr
/-- A slice that reads numbers, in new memory. -/
def NewInts (w w' : World) (v : Value) (L : List Int) : Prop := w'.ownsRow w.heap.size 3 1 v L.length (nums L)
section
variable {w : World} {g : Nat} {L : List Int} {rest : List UInt8}
set_option maxRecDepth 100000 in
set_option maxHeartbeats 800000 in
theorem list_ok (h : RdAt w g (ibs L ++ rest) false) (hL : ∀ n ∈ L, I64 n) {N : Nat} (hN : L.length = N) (hs : N ≤ 100) (hr : rest.length ≤ 1000) :
    Calls Tryz.prog 83 #[.pointer (some ⟨g, 0, none⟩), .func (.func 82) #[.pointer (some ⟨g, 0, none⟩)] #[]] w fun e w' => ∃ v, e = .returned v ∧ NewInts w w' v L ∧ RdAt w' g rest false ∧ Only (· = g) w w' := by
  have hg := h.lt
  have h64 := small64 (n := L.length) (by omega)
  have hvl := vis_len hL
  have hge := vis_ge L
  have hv10 := vi_ten (zz_lt h64.1 h64.2)
  have hc := hid (rint_ok (rest := vis L ++ rest) (L.length : Int) h64 (by unfold ibs at h; rw [List.append_assoc] at h; exact h) (by simp only [List.length_append]; omega))
  have HL := hid hL
  have HN := hid hN
  rw [hN] at hc hge
  clear h64 hL h hv10
  go_enter Tryz.func83, Tryz.ntmps83
  go_wp2_with fail
  refine hc.out.mono ?_
  rintro e w1 ⟨rfl, h1, h2⟩
  have e0 : w1.cell? ⟨g, 0, none⟩ = some (.string ⟨(vis L ++ rest).toArray⟩) := by unfold RdAt at h1; rw [h1.cell]; rfl
  have hsz : (ByteArray.mk (vis L ++ rest).toArray).size = (vis L).length + rest.length := by show (vis L ++ rest).toArray.size = _; simp
  obtain ⟨s, hs0⟩ : ∃ s, s = (ByteArray.mk (vis L ++ rest).toArray) := ⟨_, rfl⟩
  rw [← hs0] at e0 hsz
  obtain ⟨m, hm⟩ : ∃ m, m = (vis L).length + rest.length := ⟨_, rfl⟩
  rw [← hm] at hsz
  have hNm : N ≤ m := by omega
  have d1 : decide ((m : Int) < (N : Int)) = false := by simp; omega
  have d1' : decide (m < N) = false := by simp; omega
  have d2 : decide ((N : Int) < 0) = false := by simp
  have H1 := hid h1
  have H2 := hid h2
  clear h1 h2 hm hs0 hN hge
  go_wp2_with fail
  go_loopw [6, 27] (fun v6 v27 wr => ∃ j : Nat, j ≤ N ∧ v27 = .int .i64 j ∧ Hid (ListRel w g L rest j v6 wr)) (fun _ v27 _ => N - (intOf v27).toNat)
  case atStart => exact ⟨0, Nat.zero_le _, rfl, by simpa [nums] using World.ownsRow_nil w1 w.heap.size 3 1, by simpa using H1.out, H2.out⟩
  case round =>
    obtain ⟨j, hj, rfl, hI⟩ := hrel
    by_cases hjn : j < N
    · have hjL : j < L.length := by rw [HN.out]; exact hjn
      have h64j := HL.out L[j] (List.getElem_mem hjL)
      have hrd := hI.out.2.1
      rw [vis_drop L hjL, List.append_assoc] at hrd
      have hdl := vis_len (L := L.drop (j + 1)) fun n hn => HL.out n (List.mem_of_mem_drop hn)
      have hten := vi_ten (zz_lt h64j.1 h64j.2)
      have hdd : (L.drop (j + 1)).length ≤ N := by rw [List.length_drop, HN.out]; omega
      have hc2 := hid (rint_ok L[j] h64j hrd (by simp only [List.length_append]; omega))
      have hsn := hid (nums_snoc L hjL)
      obtain ⟨y, hy⟩ : ∃ y, y = L[j] := ⟨_, rfl⟩
      rw [← hy] at hc2 hsn
      have hws := Only.size hI.out.2.2
      clear h64j hy hrd hdl hten hdd
      go_wp2_with fail
      refine hc2.out.mono ?_
      rintro e w2 ⟨rfl, h3, h4⟩
      have hrow := own_only hI.out.1 h4 (fun k hk => hk ▸ hg)
      have hws2 := h4.size
      have HR := hid hrow
      have H3 := hid h3
      have H4 := hid h4
      clear h3 h4 hrow
      go_wp2_with (at_builtin; refine wpList_app1 _ rfl (.tmp 29) (.tmp 32) 26 3 (.int .i64 0) 8 rfl Tryz.underlying26 info3 rfl (by decide) w.heap.size u6 j (nums (L.take j)) rfl (.inl HR.out) _ rfl rfl (by omega) (by omega) ?_; intro v' w3 h5 h6; have e5 : w3.cell? ⟨g, 1, none⟩ = some (.bool false) := (Blk.below H3.out h6 hg).cell 1; have H5 := hid h5; have H6 := hid h6; clear h5 h6)
      go_roundw
      case rel =>
        refine ⟨j + 1, by omega, by go_num, hid ⟨?_, Blk.below H3.out H6.out hg, (hI.out.2.2.trans H4.out).then_below H6.out⟩⟩
        rw [hsn.out]
        exact H5.out
      case measure => simp [intOf]; omega
    · obtain rfl : j = N := by omega
      go_wp2_with fail
      go_ret
      refine ⟨u6, rfl, ?_, ?_, hI.out.2.2⟩
      · have h := hI.out.1
        rw [← HN.out, List.take_length] at h
        exact h
      · have h := hI.out.2.1
        rw [← HN.out, List.drop_length] at h
        exact h
theorem rints_ok (h : RdAt w g (ibs L ++ rest) false) (hL : ∀ n ∈ L, I64 n) {N : Nat} (hN : L.length = N) (hs : N ≤ 100) (hr : rest.length ≤ 1000) :
    Calls Tryz.prog 36 #[.pointer (some ⟨g, 0, none⟩)] w fun e w' => ∃ v, e = .returned v ∧ NewInts w w' v L ∧ RdAt w' g rest false ∧ Only (· = g) w w' := by
  have hc := hid (list_ok h hL hN hs hr)
  clear h hL hN
  go_enter Tryz.func36, Tryz.ntmps36
  go_wp2_with fail
  refine hc.out.mono ?_
  rintro e w' ⟨v, rfl, h1⟩
  have H1 := hid h1
  clear h1
  go_wp2_with fail
  go_ret
  exact ⟨v, rfl, H1.out⟩
/-- What is told is understood. -/
theorem Answer_ok (e : Nat) (he : e < 256) (hL : ∀ n ∈ L, I64 n) (hs : L.length ≤ 100) (w : World) :
    Calls Tryz.prog 8 #[.string (ansB L e)] w fun r w' => ∃ v, r = .returned (.tuple #[.int .i64 e, v, .int .i64 0]) ∧ NewInts w w' v (if e = 0 then L else []) ∧ Below w.heap.size w w' := by
  obtain ⟨K, hK⟩ : ∃ K, K = if e = 0 then L else [] := ⟨_, rfl⟩
  have hKs : K.length ≤ 100 := by rw [hK]; split; exact hs; exact Nat.zero_le _
  have hKL : ∀ n ∈ K, I64 n := by
    rw [hK]
    split
    · exact hL
    · intro n hn; cases hn
  have hans : ansB L e = ⟨(UInt8.ofNat e :: ibs K).toArray⟩ := by rw [hK]; rfl
  rw [hans, ← hK]
  have HKL := hid hKL
  clear hans hK hL hKL
  go_enter Tryz.func8, Tryz.ntmps8
  go_wp2_with fail
  refine (newR_any w (UInt8.ofNat e :: ibs K)).mono ?_
  rintro r w1 ⟨rfl, h1, h2⟩
  have hc1 := hid (rbyte_ok (rest := ibs K) (UInt8.ofNat e) h1)
  have HB := hid h2
  clear h1 h2
  go_wp2_with fail
  refine hc1.out.mono ?_
  rintro r w2 ⟨rfl, h1, h2⟩
  have hc2 := hid (rints_ok (L := K) (rest := []) (by rw [List.append_nil]; exact h1) HKL.out rfl hKs (by simp))
  have HB2 := hid h2
  clear h1 h2
  go_wp2_with fail
  refine hc2.out.mono ?_
  rintro r w3 ⟨v, rfl, h1, h2, h3⟩
  have hc3 := hid (rdone_ok h2)
  have HV := hid h1
  have HB3 := hid h3
  clear h1 h2 h3
  have heq2 : Hid ((e : Int) % 256 = e) := by show _ = _; omega
  have heq : Hid ((UInt8.ofNat e).toNat = e) := by show _ = _; rw [UInt8.toNat_ofNat']; exact Nat.mod_eq_of_lt he
  go_wp2_with fail
  refine hc3.out.mono ?_
  rintro r w4 ⟨rfl, rfl⟩
  go_wp2_with fail
  go_ret3
  have hb2 := HB.out
  have s2 := HB2.out.size
  have s1 := HB.out.size
  refine ⟨v, by rw [heq2.out]; rfl, own_lower HV.out (by omega), ?_⟩
  have h12 := (HB2.out.below (B := w.heap.size) (by omega) fun k hk e => by subst e; exact Nat.lt_irrefl _ hk)
  have h23 := (HB3.out.below (B := w.heap.size) (by omega) fun k hk e => by subst e; exact Nat.lt_irrefl _ hk)
  exact (hb2.trans h12).trans h23
end
end Go.Proofs.YtopbojifllnckaaGreatDoor
namespace Go.Proofs.YtopbojifllnckaaGreatDoor
open Go.RowKit
attribute [local irreducible] wpQuiet
/-- Pointers to a command's numbers. -/
def ptrs (p : Nat) : Array Value := #[.pointer (some ⟨p, 0, none⟩), .pointer (some ⟨p, 1, none⟩), .pointer (some ⟨p, 2, none⟩), .pointer (some ⟨p, 3, none⟩), .pointer (some ⟨p, 4, none⟩), .pointer (some ⟨p, 5, none⟩), .pointer (some ⟨p, 6, none⟩), .pointer (some ⟨p, 7, none⟩)]
theorem ptrs_get (p : Nat) {j : Nat} (hj : j < 8) : (ptrs p)[j]? = some (.pointer (some ⟨p, j, none⟩)) := by
  match j, hj with
  | 0, _ => rfl
  | 1, _ => rfl
  | 2, _ => rfl
  | 3, _ => rfl
  | 4, _ => rfl
  | 5, _ => rfl
  | 6, _ => rfl
  | 7, _ => rfl
theorem cells_get (x : Cmd) {j : Nat} (hj : j < 8) : x.cells[j]? = some (.int .i64 (x.list[j]'(by simpa [Cmd.list] using hj))) := by
  match j, hj with
  | 0, _ => rfl
  | 1, _ => rfl
  | 2, _ => rfl
  | 3, _ => rfl
  | 4, _ => rfl
  | 5, _ => rfl
  | 6, _ => rfl
  | 7, _ => rfl
set_option maxRecDepth 100000 in
theorem ints_any (p : Nat) (w : World) : Calls Tryz.prog 88 #[.pointer (some ⟨p, 0, none⟩)] w fun e w' => e = .returned (.slice (some ⟨w.heap.size, 0, none⟩) 8 8) ∧ Blk w' w.heap.size 184 (ptrs p) ∧ Below w.heap.size w w' := by
  go_enter Tryz.func88, Tryz.ntmps88
  go_wp2_with fail
  go_still_tail 24, (by kernel_rfl)
  change wpList _ _ _ _ _ (w.drewN 1)
  go_wp2_with fail
  go_ret
  exact ⟨rfl, Blk.new (w.drewN 1) _ _, (below_drewN (Below.refl _ _) 1).alloc (Nat.le_refl _) _⟩
def EncRel (w : World) (base b0 bi g : Nat) (x : Cmd) (j : Nat) (wr : World) : Prop :=
  WrAt wr base g (vis (x.list.take j)) ∧ Blk wr b0 30 x.cells ∧ Blk wr bi 184 (ptrs b0) ∧ Below w.heap.size w wr ∧ b0 ≠ g ∧ bi ≠ g
set_option maxRecDepth 100000 in
set_option maxHeartbeats 1600000 in
theorem menc_ok (x : Cmd) (h : x.OK) (k : x.In) (w : World) :
    Calls Tryz.prog 89 #[.agg x.cells] w fun e w' => e = .returned (.tuple #[.string (encC x), .int .i64 0]) ∧ Below w.heap.size w w' := by
  have hall := hid (Cmd.all h k)
  have h0 := h.c0; have h1 := h.c1; have h2 := h.s0; have h3 := h.s1; have h4 := h.k0; have h5 := h.k1
  have hB := Blk.new w 30 x.cells
  have hb0 := (Below.refl w.heap.size w).alloc (Nat.le_refl _) (.cells x.cells 30)
  obtain ⟨W, hW⟩ : ∃ W, W = w.alloc (.cells x.cells 30) := ⟨_, rfl⟩
  rw [← hW] at hB hb0
  have hsz : W.heap.size = w.heap.size + 1 := by rw [hW]; simp
  have d0 : decide (x.cl < 0) = false := by simp; omega
  have d1 : decide (16 ≤ x.cl) = false := by simp; omega
  have d2 : decide (x.sq < 0) = false := by simp; omega
  have d3 : decide (2147483648 ≤ x.sq) = false := by simp; omega
  have d4 : decide (x.kd < 1) = false := by simp; omega
  have d5 : decide (9 < x.kd) = false := by simp; omega
  have HB := hid hB
  have HB0 := hid hb0
  have HSZ := hid hsz
  have hWe : Hid (w.alloc (.cells #[.int .i64 x.cl, .int .i64 x.sq, .int .i64 x.kd, .int .i64 x.a, .int .i64 x.b, .int .i64 x.c, .int .i64 x.d, .int .i64 x.e] 30) = W) := hW.symm
  clear hB hb0 hsz hW h k h0 h1 h2 h3 h4 h5
  unfold Cmd.cells
  go_enter Tryz.func89, Tryz.ntmps89
  go_wp2_with fail
  rw [hWe.out]
  clear d0 d1 d2 d3 d4 d5
  refine (newW_any W).mono ?_
  rintro e w1 ⟨rfl, h1, h2⟩
  have hw1 := h2.size
  have HW1 := hid h1
  have HB1 := hid h2
  have hlt := HW1.out.lt
  clear h1 h2
  go_wp2_with fail
  refine (ints_any w.heap.size w1).mono ?_
  rintro e w2 ⟨rfl, h1, h2⟩
  have HP := hid h1
  have HB2 := hid h2
  have hw2 := h2.size
  clear h1 h2
  go_wp2_with fail
  go_loopw [38] (fun v38 wr => ∃ j : Nat, j ≤ 8 ∧ v38 = .int .i64 j ∧ Hid (EncRel w W.heap.size w.heap.size w1.heap.size W.heap.size x j wr)) (fun v38 _ => 8 - (intOf v38).toNat)
  case atStart =>
    have hz := HSZ.out
    refine ⟨0, Nat.zero_le _, rfl, ?_, ?_, HP.out, ?_, by omega, by omega⟩
    · have := HW1.out.below HB2.out
      simpa [vis] using this
    · exact ((HB.out.below HB1.out (by omega)).below HB2.out (by omega))
    · exact ((HB0.out.trans (HB1.out.mono (by omega))).trans (HB2.out.mono (by omega)))
  case round =>
    obtain ⟨j, hj, rfl, hI⟩ := hrel
    have hxl : x.list.length = 8 := rfl
    by_cases hj8 : j < 8
    · have hjl : j < x.list.length := by omega
      have e0 : wr.cell? ⟨w1.heap.size, j, none⟩ = some (.pointer (some ⟨w.heap.size, j, none⟩)) := by rw [hI.out.2.2.1.cell]; exact ptrs_get _ hj8
      have e1 : wr.cell? ⟨w.heap.size, j, none⟩ = some (.int .i64 (x.list[j]'hjl)) := by rw [hI.out.2.1.cell]; exact cells_get x hj8
      have h64 := hall.out _ (List.getElem_mem hjl)
      have hvl := vis_len (L := x.list.take j) fun n hn => hall.out n (List.mem_of_mem_take hn)
      have htl : (x.list.take j).length ≤ j := List.length_take_le _ _
      have hc := hid (wint_all hI.out.1 (x.list[j]'hjl) h64 (by omega))
      have hsn := hid (vis_snoc x.list hjl)
      generalize x.list[j]'hjl = y at e1 hc hsn
      clear h64 hvl htl hxl
      go_wp2_with fail
      refine hc.out.mono ?_
      rintro e w3 ⟨rfl, h1, h2, h3⟩
      have H1 := hid h1
      have H2 := hid h2
      have H3 := hid h3
      clear h1 h2 h3
      go_wp2_with fail
      go_roundw
      case rel =>
        have hi := hI.out
        have hz := HSZ.out
        refine ⟨j + 1, by omega, by go_num, hid ⟨?_, hi.2.1.only H3.out hi.2.2.2.2.1, hi.2.2.1.only H3.out hi.2.2.2.2.2, hi.2.2.2.1.trans (H2.out.mono (by omega)), hi.2.2.2.2⟩⟩
        rw [hsn.out]
        exact H1.out
      case measure => simp [intOf]; omega
    · obtain rfl : j = 8 := by omega
      have hc := hid (wdone_any (l := vis x.list) hI.out.1 (by
        have := vis_ge x.list
        omega))
      go_wp2_with fail
      refine hc.out.mono ?_
      rintro e w3 ⟨rfl, rfl⟩
      go_wp2_with fail
      go_ret2
      exact ⟨rfl, hI.out.2.2.2.1⟩
end Go.Proofs.YtopbojifllnckaaGreatDoor
namespace Go.Proofs.YtopbojifllnckaaGreatDoor
open Go.RowKit
attribute [local irreducible] wpQuiet
/-- A command of which j numbers are read. -/
def mid (x : Cmd) (j : Nat) : Array Value := ((x.list.take j ++ List.replicate (8 - j) 0).map (Value.int .i64 ·)).toArray
theorem mid_set (x : Cmd) {j : Nat} (hj : j < 8) : (mid x j).setIfInBounds j (.int .i64 (x.list[j]'(by simpa [Cmd.list] using hj))) = mid x (j + 1) := by
  match j, hj with
  | 0, _ => rfl
  | 1, _ => rfl
  | 2, _ => rfl
  | 3, _ => rfl
  | 4, _ => rfl
  | 5, _ => rfl
  | 6, _ => rfl
  | 7, _ => rfl
theorem mid_size (x : Cmd) {j : Nat} (hj : j ≤ 8) : (mid x j).size = 8 := by simp [mid, Cmd.list]; omega
def Cmd.none : Cmd := ⟨0, 0, 0, 0, 0, 0, 0, 0⟩
def DecRel (w : World) (br gr bc bi : Nat) (x : Cmd) (j : Nat) (wr : World) : Prop :=
  RdAt wr gr (vis (x.list.drop j)) false ∧ Blk wr bc 30 (mid x j) ∧ Blk wr bi 184 (ptrs bc) ∧ Blk wr br 30 Cmd.none.cells ∧ Below w.heap.size w wr
theorem agg8 {w : World} {b : Nat} {x : Cmd} (h : Blk w b 30 x.cells) : w.cell? ⟨b, 0, Option.none⟩ = some (.int .i64 x.cl) ∧ w.cell? ⟨b, 1, Option.none⟩ = some (.int .i64 x.sq) ∧ w.cell? ⟨b, 2, Option.none⟩ = some (.int .i64 x.kd) ∧ w.cell? ⟨b, 3, Option.none⟩ = some (.int .i64 x.a) ∧
    w.cell? ⟨b, 4, Option.none⟩ = some (.int .i64 x.b) ∧ w.cell? ⟨b, 5, Option.none⟩ = some (.int .i64 x.c) ∧ w.cell? ⟨b, 6, Option.none⟩ = some (.int .i64 x.d) ∧ w.cell? ⟨b, 7, Option.none⟩ = some (.int .i64 x.e) :=
  ⟨(h.cell 0).trans rfl, (h.cell 1).trans rfl, (h.cell 2).trans rfl, (h.cell 3).trans rfl, (h.cell 4).trans rfl, (h.cell 5).trans rfl, (h.cell 6).trans rfl, (h.cell 7).trans rfl⟩
/-- What stands ahead of the loop. -/
theorem dec_start {w w1 w2 : World} {l : List UInt8} (h1 : RdAt w1 (w.alloc (.cells Cmd.none.cells 30)).heap.size l false) (h2 : Below (w.alloc (.cells Cmd.none.cells 30)).heap.size (w.alloc (.cells Cmd.none.cells 30)) w1)
    (h3 : Blk w2 (w1.alloc (.cells Cmd.none.cells 30)).heap.size 184 (ptrs w1.heap.size)) (h4 : Below (w1.alloc (.cells Cmd.none.cells 30)).heap.size (w1.alloc (.cells Cmd.none.cells 30)) w2) :
    RdAt w2 (w.heap.size + 1) l false ∧ Blk w2 w1.heap.size 30 Cmd.none.cells ∧ Blk w2 (w1.heap.size + 1) 184 (ptrs w1.heap.size) ∧ Blk w2 w.heap.size 30 Cmd.none.cells ∧ Below w.heap.size w w2 ∧ w.heap.size + 1 < w1.heap.size := by
  have e1 : (w.alloc (.cells Cmd.none.cells 30)).heap.size = w.heap.size + 1 := by simp
  have e2 : (w1.alloc (.cells Cmd.none.cells 30)).heap.size = w1.heap.size + 1 := by simp
  rw [e1] at h1 h2
  rw [e2] at h3 h4
  have s1 := h2.size
  have s3 := h1.lt
  have hA := (Blk.alloc h1 (.cells Cmd.none.cells 30)).below h4 (by omega)
  have hB := (Blk.new w1 30 Cmd.none.cells).below h4 (by omega)
  have hC := (((Blk.new w 30 Cmd.none.cells).below h2 (by omega)).alloc (.cells Cmd.none.cells 30)).below h4 (by rw [e1] at s1; omega)
  have hD := (((Below.refl w.heap.size w).alloc (Nat.le_refl _) (.cells Cmd.none.cells 30)).trans (h2.mono (by omega))).alloc (by rw [e1] at s1; omega) (.cells Cmd.none.cells 30)
  exact ⟨hA, hB, h3, hC, hD.trans (h4.mono (by rw [e1] at s1; omega)), s3⟩
set_option maxRecDepth 100000 in
set_option maxHeartbeats 1600000 in
theorem Decode_ok (x : Cmd) (h : x.OK) (k : x.In) ( w : World) :
    Calls Tryz.prog 39 #[.string (encC x)] w fun e w' => e = .returned (.tuple #[.agg x.cells, .int .i64 0]) ∧ Below w.heap.size w w' := by
  have hall := hid (Cmd.all h k)
  have HX := hid (And.intro h k)
  clear h k
  unfold encC
  go_enter Tryz.func39, Tryz.ntmps39
  go_wp2_with fail
  refine (newR_any _ (vis x.list)).mono ?_
  rintro e w1 ⟨rfl, h1, h2⟩
  have H1 := hid h1
  have H2 := hid h2
  clear h1 h2
  go_wp2_with fail
  refine (ints_any w1.heap.size _).mono ?_
  rintro e w2 ⟨rfl, h3, h4⟩
  have hst := dec_start H1.out H2.out h3 h4
  have hlt := hst.2.2.2.2.2
  have HST := hid hst
  clear h3 h4 hst H1 H2
  go_wp2_with fail
  go_loopw [15] (fun v15 wr => ∃ j : Nat, j ≤ 8 ∧ v15 = .int .i64 j ∧ Hid (DecRel w w.heap.size (w.heap.size + 1) w1.heap.size (w1.heap.size + 1) x j wr)) (fun v15 _ => 8 - (intOf v15).toNat)
  case atStart => exact ⟨0, Nat.zero_le _, rfl, HST.out.1, HST.out.2.1, HST.out.2.2.1, HST.out.2.2.2.1, HST.out.2.2.2.2.1⟩
  case round =>
    obtain ⟨j, hj, rfl, hI⟩ := hrel
    have hxl : x.list.length = 8 := rfl
    by_cases hj8 : j < 8
    · have hjl : j < x.list.length := by omega
      have e0 : wr.cell? ⟨w1.heap.size + 1, j, Option.none⟩ = some (.pointer (some ⟨w1.heap.size, j, Option.none⟩)) := by rw [hI.out.2.2.1.cell]; exact ptrs_get _ hj8
      have h64 := hall.out _ (List.getElem_mem hjl)
      have hrd := hI.out.1
      rw [vis_drop x.list hjl] at hrd
      have hvl := vis_len (L := x.list.drop (j + 1)) fun n hn => hall.out n (List.mem_of_mem_drop hn)
      have hdl : (x.list.drop (j + 1)).length ≤ 8 := by rw [List.length_drop]; omega
      have hten := vi_ten (zz_lt h64.1 h64.2)
      have hc := hid (rint_ok (x.list[j]'hjl) h64 hrd (by rw [List.length_append]; omega))
      have hms := hid (mid_set x hj8)
      have hmz := mid_size x hj
      generalize x.list[j]'hjl = y at hc hms hrd hten h64
      clear h64 hvl hdl hten hrd
      go_wp2_with fail
      refine hc.out.mono ?_
      rintro e w3 ⟨rfl, h1, h2⟩
      have hb3 := Blk.only hI.out.2.1 h2 (show ¬ w1.heap.size = w.heap.size + 1 by omega)
      have e3 : ∃ u, w3.cell? ⟨w1.heap.size, j, Option.none⟩ = some u := ⟨_, by rw [hb3.cell]; exact Array.getElem?_eq_getElem (by omega)⟩
      obtain ⟨u, e3⟩ := e3
      have f3 := hb3.frozen j
      have H1 := hid h1
      have H2 := hid h2
      have H3 := hid hb3
      clear h1 h2 hb3 hmz
      go_wp2_with fail
      go_roundw
      case rel =>
        have hi := hI.out
        refine ⟨j + 1, by omega, by go_num, hid ⟨?_, ?_, ?_, ?_, ?_⟩⟩
        · exact Blk.far H1.out (p := ⟨w1.heap.size, j, Option.none⟩) (by show w.heap.size + 1 ≠ w1.heap.size; omega) _
        · rw [← hms.out]
          exact H3.out.set_ j _
        · exact (hi.2.2.1.only H2.out (by omega)).far (p := ⟨w1.heap.size, j, Option.none⟩) (by show w1.heap.size + 1 ≠ w1.heap.size; omega) _
        · exact (hi.2.2.2.1.only H2.out (by omega)).far (p := ⟨w1.heap.size, j, Option.none⟩) (by show w.heap.size ≠ w1.heap.size; omega) _
        · exact (hi.2.2.2.2.trans (H2.out.below (Below.size hi.2.2.2.2) fun k hk e => by omega)).setCell (p := ⟨w1.heap.size, j, Option.none⟩) (by show w.heap.size ≤ w1.heap.size; omega) _
      case measure => simp [intOf]; omega
    · obtain rfl : j = 8 := by omega
      obtain ⟨a0, a1, a2, a3, a4, a5, a6, a7⟩ := agg8 (x := x) hI.out.2.1
      have hc := hid (menc_ok x HX.out.1 HX.out.2 wr)
      have hszr := hI.out.2.2.2.1.lt
      go_wp2_with fail
      refine hc.out.mono ?_
      rintro e w3 ⟨rfl, h1⟩
      have hc2 := hid (rdone_ok (Blk.below hI.out.1 h1 (Blk.lt hI.out.1)))
      have hb3 := hI.out.2.1.below h1 (Blk.lt hI.out.2.1)
      obtain ⟨a0, a1, a2, a3, a4, a5, a6, a7⟩ := agg8 (x := x) hb3
      have hr3 := hI.out.2.2.2.1.below h1 (Blk.lt hI.out.2.2.2.1)
      have H1 := hid h1
      clear h1 hb3
      go_wp2_with fail
      refine hc2.out.mono ?_
      rintro e w4 ⟨rfl, rfl⟩
      obtain ⟨b0, b1, b2, b3, b4, b5, b6, b7⟩ := agg8 (x := Cmd.none) hr3
      have f0 := hr3.frozen 0; have f1 := hr3.frozen 1; have f2 := hr3.frozen 2; have f3 := hr3.frozen 3
      have f4 := hr3.frozen 4; have f5 := hr3.frozen 5; have f6 := hr3.frozen 6; have f7 := hr3.frozen 7
      have HR := hid hr3
      clear hr3
      have hbb := hid (hI.out.2.2.2.2.trans (H1.out.mono (Nat.le_of_lt hszr)))
      go_wp2_with fail
      refine bodyPost_ret (v := .tuple #[.agg x.cells, .int .i64 0]) (by simp [results, Tryz.results39, go_sem, Cmd.cells, b0, b1, b2, b3, b4, b5, b6, b7]) rfl ⟨rfl, ?_⟩
      have hq : ∀ (W : World) (i : Nat) (v : Value), Below w.heap.size w W → Below w.heap.size w (W.setCell ⟨w.heap.size, i, Option.none⟩ v) := fun W i v h => h.setCell (p := ⟨w.heap.size, i, Option.none⟩) (Nat.le_refl _) v
      exact hq _ _ _ (hq _ _ _ (hq _ _ _ (hq _ _ _ (hq _ _ _ (hq _ _ _ (hq _ _ _ (hq _ _ _ hbb.out)))))))
theorem menc_none (w : World) : Calls Tryz.prog 89 #[.agg Cmd.none.cells] w fun e w' => e = .returned (.tuple #[.string ⟨#[]⟩, .int .i64 1]) ∧ Below w.heap.size w w' := by
  have hB := hid (((Below.refl w.heap.size w).alloc (Nat.le_refl _) (.cells #[.int .i64 0, .int .i64 0, .int .i64 0, .int .i64 0, .int .i64 0, .int .i64 0, .int .i64 0, .int .i64 0] 30)))
  unfold Cmd.cells Cmd.none
  go_enter Tryz.func89, Tryz.ntmps89
  go_wp2_with fail
  go_ret2
  exact ⟨rfl, hB.out⟩
def DecRel0 (w : World) (br gr bc bi : Nat) (wr : World) : Prop :=
  (∃ bad, RdAt wr gr [] bad) ∧ Blk wr bc 30 Cmd.none.cells ∧ Blk wr bi 184 (ptrs bc) ∧ Blk wr br 30 Cmd.none.cells ∧ Below w.heap.size w wr
theorem none_set {j : Nat} (hj : j < 8) : Cmd.none.cells.setIfInBounds j (.int .i64 0) = Cmd.none.cells := by
  match j, hj with
  | 0, _ => rfl
  | 1, _ => rfl
  | 2, _ => rfl
  | 3, _ => rfl
  | 4, _ => rfl
  | 5, _ => rfl
  | 6, _ => rfl
  | 7, _ => rfl
set_option maxRecDepth 100000 in
set_option maxHeartbeats 1600000 in
theorem Decode_none (w : World) :
    Calls Tryz.prog 39 #[.string ⟨#[]⟩] w fun e w' => e = .returned (.tuple #[.agg Cmd.none.cells, .int .i64 3]) ∧ Below w.heap.size w w' := by
  go_enter Tryz.func39, Tryz.ntmps39
  go_wp2_with fail
  refine (newR_any _ []).mono ?_
  rintro e w1 ⟨rfl, h1, h2⟩
  have H1 := hid h1
  have H2 := hid h2
  clear h1 h2
  go_wp2_with fail
  refine (ints_any w1.heap.size _).mono ?_
  rintro e w2 ⟨rfl, h3, h4⟩
  have hst := dec_start H1.out H2.out h3 h4
  have hlt := hst.2.2.2.2.2
  have HST := hid hst
  clear h3 h4 hst H1 H2
  go_wp2_with fail
  go_loopw [15] (fun v15 wr => ∃ j : Nat, j ≤ 8 ∧ v15 = .int .i64 j ∧ Hid (DecRel0 w w.heap.size (w.heap.size + 1) w1.heap.size (w1.heap.size + 1) wr)) (fun v15 _ => 8 - (intOf v15).toNat)
  case atStart => exact ⟨0, Nat.zero_le _, rfl, ⟨_, HST.out.1⟩, HST.out.2.1, HST.out.2.2.1, HST.out.2.2.2.1, HST.out.2.2.2.2.1⟩
  case round =>
    obtain ⟨j, hj, rfl, hI⟩ := hrel
    by_cases hj8 : j < 8
    · have e0 : wr.cell? ⟨w1.heap.size + 1, j, Option.none⟩ = some (.pointer (some ⟨w1.heap.size, j, Option.none⟩)) := by rw [hI.out.2.2.1.cell]; exact ptrs_get _ hj8
      obtain ⟨bad, hrd⟩ := hI.out.1
      have hc := hid (rint_none hrd)
      have hms := hid (none_set hj8)
      clear hrd
      go_wp2_with fail
      refine hc.out.mono ?_
      rintro e w3 ⟨rfl, h1, h2⟩
      have hb3 := Blk.only hI.out.2.1 h2 (show ¬ w1.heap.size = w.heap.size + 1 by omega)
      have e3 : ∃ u, w3.cell? ⟨w1.heap.size, j, Option.none⟩ = some u := ⟨_, by rw [hb3.cell]; exact Array.getElem?_eq_getElem (show j < Cmd.none.cells.size from hj8)⟩
      obtain ⟨u, e3⟩ := e3
      have f3 := hb3.frozen j
      have H1 := hid h1
      have H2 := hid h2
      have H3 := hid hb3
      clear h1 h2 hb3
      go_wp2_with fail
      go_roundw
      case rel =>
        have hi := hI.out
        refine ⟨j + 1, by omega, by go_num, hid ⟨⟨true, ?_⟩, ?_, ?_, ?_, ?_⟩⟩
        · exact Blk.far H1.out (p := ⟨w1.heap.size, j, Option.none⟩) (by show w.heap.size + 1 ≠ w1.heap.size; omega) _
        · have := H3.out.set_ j (.int .i64 0)
          rw [hms.out] at this
          exact this
        · exact (hi.2.2.1.only H2.out (by omega)).far (p := ⟨w1.heap.size, j, Option.none⟩) (by show w1.heap.size + 1 ≠ w1.heap.size; omega) _
        · exact (hi.2.2.2.1.only H2.out (by omega)).far (p := ⟨w1.heap.size, j, Option.none⟩) (by show w.heap.size ≠ w1.heap.size; omega) _
        · exact (hi.2.2.2.2.trans (H2.out.below (Below.size hi.2.2.2.2) fun k hk e => by omega)).setCell (p := ⟨w1.heap.size, j, Option.none⟩) (by show w.heap.size ≤ w1.heap.size; omega) _
      case measure => simp [intOf]; omega
    · obtain rfl : j = 8 := by omega
      obtain ⟨a0, a1, a2, a3, a4, a5, a6, a7⟩ := agg8 (x := Cmd.none) hI.out.2.1
      have hc := hid (menc_none wr)
      have hszr := hI.out.2.2.2.1.lt
      go_wp2_with fail
      refine hc.out.mono ?_
      rintro e w3 ⟨rfl, h1⟩
      have hr3 := hI.out.2.2.2.1.below h1 (Blk.lt hI.out.2.2.2.1)
      have H1 := hid h1
      clear h1
      obtain ⟨b0, b1, b2, b3, b4, b5, b6, b7⟩ := agg8 (x := Cmd.none) hr3
      have f0 := hr3.frozen 0; have f1 := hr3.frozen 1; have f2 := hr3.frozen 2; have f3 := hr3.frozen 3
      have f4 := hr3.frozen 4; have f5 := hr3.frozen 5; have f6 := hr3.frozen 6; have f7 := hr3.frozen 7
      have HR := hid hr3
      clear hr3
      have hbb := hid (hI.out.2.2.2.2.trans (H1.out.mono (Nat.le_of_lt hszr)))
      go_wp2_with fail
      refine bodyPost_ret (v := .tuple #[.agg Cmd.none.cells, .int .i64 3]) (by simp [results, Tryz.results39, go_sem, Cmd.cells, Cmd.none, b0, b1, b2, b3, b4, b5, b6, b7]) rfl ⟨rfl, ?_⟩
      have hq : ∀ (W : World) (i : Nat) (v : Value), Below w.heap.size w W → Below w.heap.size w (W.setCell ⟨w.heap.size, i, Option.none⟩ v) := fun W i v h => h.setCell (p := ⟨w.heap.size, i, Option.none⟩) (Nat.le_refl _) v
      exact hq _ _ _ (hq _ _ _ (hq _ _ _ (hq _ _ _ (hq _ _ _ (hq _ _ _ (hq _ _ _ (hq _ _ _ hbb.out)))))))
end Go.Proofs.YtopbojifllnckaaGreatDoor
