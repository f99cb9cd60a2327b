/- reader: of. -/
import Derived.Test.YtopbojifllnckaaGreatDoorG37
namespace Go.Proofs.YtopbojifllnckaaGreatDoor
open Go.RowKit
attribute [local irreducible] wpQuiet
/-- A stripe that is read, in block p: its texts, which were asked, which came. -/
def StrAt (base : Nat) (w : World) (p a j ln long : Nat) (F : Nat → ByteArray) (A C : Nat → Bool) : Prop :=
  ∃ (st : Int) (q c fr ak cm : Nat), Blk w p 130 #[.pointer (some ⟨a, 0, none⟩), .int .i64 j, .int .i64 st, .int .i64 3, .int .i64 1, .int .i64 ln, .slice (some ⟨q, 0, none⟩) 4 c, .int .i64 long, .slice (some ⟨fr, 0, none⟩) 4 4, .slice (some ⟨ak, 0, none⟩) 4 4, .slice (some ⟨cm, 0, none⟩) 4 4] ∧
    Blk w fr 9 #[.string (F 0), .string (F 1), .string (F 2), .string (F 3)] ∧ Blk w ak 4 #[.bool (A 0), .bool (A 1), .bool (A 2), .bool (A 3)] ∧ Blk w cm 4 #[.bool (C 0), .bool (C 1), .bool (C 2), .bool (C 3)] ∧
    base ≤ p ∧ base ≤ fr ∧ base ≤ ak ∧ base ≤ cm ∧ ak ≠ cm
theorem info4 : (Tryz.prog.info? 4).map (fun i => (i.zero, i.size, i.bytes)) = some (some (.bool false), 1, 1) := by kernel_rfl
theorem make41 (w : World) : (Instr.makeSlice 41 (.int .i64 4) (.int .i64 4)).run Tryz.prog w = .ok (.slice (some ⟨w.heap.size, 0, none⟩) 4 4) (w.alloc (.cells #[.string ⟨#[]⟩, .string ⟨#[]⟩, .string ⟨#[]⟩, .string ⟨#[]⟩] 9)) := by
  obtain ⟨i0, hi, hzz⟩ := Option.map_eq_some_iff.1 info9
  simp only [Prod.mk.injEq] at hzz
  obtain ⟨hz0, hz1, hz2⟩ := hzz
  have := run_makeSlice (P := Tryz.prog) (w := w) 41 9 i0 (.string ⟨#[]⟩) Tryz.underlying41 hi hz0 .i64 .i64 (4 : Int) (4 : Int) (by omega) (by omega) (by rw [hz1]; decide) (by rw [hz2]; decide) (by omega)
  have hc : madeCells (Value.string ⟨#[]⟩).cells (4 * i0.size) = #[.string ⟨#[]⟩, .string ⟨#[]⟩, .string ⟨#[]⟩, .string ⟨#[]⟩] := by rw [hz1]; exact Array.ext' ((toList_madeCells_one _ _).trans rfl)
  rw [← hc]
  exact this
theorem make128 (w : World) : (Instr.makeSlice 128 (.int .i64 4) (.int .i64 4)).run Tryz.prog w = .ok (.slice (some ⟨w.heap.size, 0, none⟩) 4 4) (w.alloc (.cells #[.bool false, .bool false, .bool false, .bool false] 4)) := by
  obtain ⟨i0, hi, hzz⟩ := Option.map_eq_some_iff.1 info4
  simp only [Prod.mk.injEq] at hzz
  obtain ⟨hz0, hz1, hz2⟩ := hzz
  have := run_makeSlice (P := Tryz.prog) (w := w) 128 4 i0 (.bool false) Tryz.underlying128 hi hz0 .i64 .i64 (4 : Int) (4 : Int) (by omega) (by omega) (by rw [hz1]; decide) (by rw [hz2]; decide) (by omega)
  have hc : madeCells (Value.bool false).cells (4 * i0.size) = #[.bool false, .bool false, .bool false, .bool false] := by rw [hz1]; exact Array.ext' ((toList_madeCells_one _ _).trans rfl)
  rw [← hc]
  exact this
section
variable {B : Nat} {T : Nat → Nat} {w w' : World} {x : X}
theorem StrAt.below {base p a j ln long : Nat} {F : Nat → ByteArray} {A C : Nat → Bool} (h : StrAt base w p a j ln long F A C) (hb : Below w.heap.size w w') : StrAt base w' p a j ln long F A C := by
  obtain ⟨st, q, c, fr, ak, cm, h1, h2, h3, h4, h5⟩ := h
  exact ⟨st, q, c, fr, ak, cm, h1.below hb h1.lt, h2.below hb h2.lt, h3.below hb h3.lt, h4.below hb h4.lt, h5⟩
theorem aMan (h : Arr B T w x) : Calls Tryz.prog 60 #[.pointer (some ⟨x.a, 0, none⟩)] w fun e w' => e = .returned (.pointer (some ⟨x.gm, 0, none⟩)) ∧ w = w' := by
  have e1 := h.acell.2.1
  have hl := h.alt
  generalize x.a = a at e1 hl
  generalize x.gm = gm at e1
  clear h
  go_enter Tryz.func60, Tryz.ntmps60
  go_wp2_with fail
  go_ret
  exact ⟨rfl, rfl⟩
theorem aSrv (h : Arr B T w x) : Calls Tryz.prog 13 #[.pointer (some ⟨x.a, 0, none⟩)] w fun e w' => e = .returned (.pointer (some ⟨x.sg, 0, none⟩)) ∧ w = w' := by
  have e1 := h.acell.1
  have hl := h.alt
  generalize x.a = a at e1 hl
  generalize x.sg = sg at e1
  clear h
  go_enter Tryz.func13, Tryz.ntmps13
  go_wp2_with fail
  go_ret
  exact ⟨rfl, rfl⟩
/-- A stripe's cells. -/
abbrev Six (w : World) (z j ln q c : Nat) : Prop := w.cell? ⟨z, 0, none⟩ = some (.int .i64 j) ∧ w.cell? ⟨z, 1, none⟩ = some (.int .i64 2) ∧ w.cell? ⟨z, 2, none⟩ = some (.int .i64 3) ∧ w.cell? ⟨z, 3, none⟩ = some (.int .i64 1) ∧ w.cell? ⟨z, 4, none⟩ = some (.int .i64 ln) ∧ w.cell? ⟨z, 5, none⟩ = some (.slice (some ⟨q, 0, none⟩) 4 c)
theorem six_al {w : World} {z j ln q c : Nat} (h : Six w z j ln q c) (o : Obj) : Six (w.alloc o) z j ln q c := ⟨cellA h.1 o, cellA h.2.1 o, cellA h.2.2.1 o, cellA h.2.2.2.1 o, cellA h.2.2.2.2.1 o, cellA h.2.2.2.2.2 o⟩
theorem heap_new (W : World) (o : Obj) : (W.alloc o).heap[W.heap.size]? = some o := by
  show (W.heap.push o)[W.heap.size]? = some o
  simp
theorem size_new (W : World) (o : Obj) : (W.alloc o).heap.size = W.heap.size + 1 := by simp
theorem four_made (W : World) (o0 o1 o2 o3 : Obj) : ((((W.alloc o0).alloc o1).alloc o2).alloc o3).heap[W.heap.size]? = some o0 ∧ ((((W.alloc o0).alloc o1).alloc o2).alloc o3).heap[W.heap.size + 1]? = some o1 ∧
    ((((W.alloc o0).alloc o1).alloc o2).alloc o3).heap[W.heap.size + 1 + 1]? = some o2 ∧ ((((W.alloc o0).alloc o1).alloc o2).alloc o3).heap[W.heap.size + 1 + 1 + 1]? = some o3 := by
  have s0 := size_new W o0
  have s1 := size_new (W.alloc o0) o1
  have s2 := size_new ((W.alloc o0).alloc o1) o2
  refine ⟨?_, ?_, ?_, ?_⟩
  · rw [Below.heap_alloc _ _ _ (by omega), Below.heap_alloc _ _ _ (by omega), Below.heap_alloc _ _ _ (by omega), heap_new]
  · rw [Below.heap_alloc _ _ _ (by omega), Below.heap_alloc _ _ _ (by omega), ← s0, heap_new]
  · rw [Below.heap_alloc _ _ _ (by omega), ← s0, ← s1, heap_new]
  · rw [← s0, ← s1, ← s2, heap_new]
theorem four_below {w W : World} {B : Nat} (h : Below B w W) (hB : B ≤ W.heap.size) (o0 o1 o2 o3 : Obj) : Below B w ((((W.alloc o0).alloc o1).alloc o2).alloc o3) :=
  (((h.alloc hB _).alloc (by simp; omega) _).alloc (by simp; omega) _).alloc (by simp; omega) _
set_option maxRecDepth 100000 in
set_option maxHeartbeats 16000000 in
theorem of_ok (h : Arr B T w x) {j : Nat} {t : SS} (hj : x.L[j]? = some t) (hst : t.st = 2) (hln : t.ln ≤ 65536) :
    Calls Tryz.prog 55 #[.pointer (some ⟨x.a, 0, none⟩), .int .i64 j] w fun e w' => ∃ p, e = .returned (.tuple #[.pointer (some ⟨p, 0, none⟩), .int .i64 0]) ∧ StrAt w.heap.size w' p x.a j t.ln (longN t.ln) (fun _ => ⟨#[]⟩) (fun _ => false) (fun _ => false) ∧ Below w.heap.size w w' := by
  have hl := h.alt
  have hm := hid (aMan h)
  have hc := hid (aStripe h hj)
  have hlong : Hid (∀ w, Calls Tryz.prog 107 #[.int .i64 t.ln, .int .i64 4] w fun e w' => e = .returned (.int .i64 (longN t.ln)) ∧ w = w') := fun w => Long_ok t.ln hln w
  rw [hst] at hc
  generalize x.a = a at hl hm
  generalize x.gm = gm at hm hc
  generalize t.ln = ln at hc hlong
  generalize longN ln = long at hlong
  have hmk1 := make41
  have hmk2 := make128
  clear h hj hst hln
  go_enter Tryz.func55, Tryz.ntmps55
  go_wp2_with fail
  refine hm.out.mono ?_
  rintro e w0 ⟨rfl, rfl⟩
  go_wp2_with fail
  refine hc.out.mono ?_
  rintro e w1 ⟨q, c, rfl, hq, hb⟩
  go_upto_region 4 with (fail)
  obtain ⟨W, hW⟩ : ∃ W, W = w1.alloc (.cells #[.int .i64 j, .int .i64 2, .int .i64 3, .int .i64 1, .int .i64 ln, .slice (some ⟨q, 0, none⟩) 4 c] 37) := ⟨_, rfl⟩
  rw [← hW]
  have hb2 : Below w.heap.size w W := by rw [hW]; exact hb.alloc hb.size _
  have hB : Blk W w1.heap.size 37 #[.int .i64 j, .int .i64 2, .int .i64 3, .int .i64 1, .int .i64 ln, .slice (some ⟨q, 0, none⟩) 4 c] := by rw [hW]; exact Blk.new w1 37 _
  obtain ⟨z, hz⟩ : ∃ z, z = w1.heap.size := ⟨_, rfl⟩
  rw [← hz] at hB ⊢
  have z0 : W.cell? ⟨z, 0, none⟩ = some (.int .i64 j) := (hB.cell 0).trans rfl
  have z1 : W.cell? ⟨z, 1, none⟩ = some (.int .i64 2) := (hB.cell 1).trans rfl
  have z2 : W.cell? ⟨z, 2, none⟩ = some (.int .i64 3) := (hB.cell 2).trans rfl
  have z3 : W.cell? ⟨z, 3, none⟩ = some (.int .i64 1) := (hB.cell 3).trans rfl
  have z4 : W.cell? ⟨z, 4, none⟩ = some (.int .i64 ln) := (hB.cell 4).trans rfl
  have z5 : W.cell? ⟨z, 5, none⟩ = some (.slice (some ⟨q, 0, none⟩) 4 c) := (hB.cell 5).trans rfl
  have h6 : Six W z j ln q c := ⟨z0, z1, z2, z3, z4, z5⟩
  have hzl := hB.lt
  have HB := hid hb2
  clear hW hb2 hB hq hb hc hz hm
  go_upto_region 7 with (fail)
  go_cut [4, 5] (fun s4 s5 wx => ∃ p, s4 = .pointer (some ⟨p, 0, none⟩) ∧ s5 = .int .i64 0 ∧ Hid (StrAt w.heap.size wx p a j ln long (fun _ => ⟨#[]⟩) (fun _ => false) (fun _ => false) ∧ Below w.heap.size w wx))
  case first =>
    go_region_held3 (fun w' => w'.cell? ⟨z, 0, none⟩ = some (.int .i64 j) ∧ w'.cell? ⟨z, 1, none⟩ = some (.int .i64 2) ∧ w'.cell? ⟨z, 2, none⟩ = some (.int .i64 3) ∧ w'.cell? ⟨z, 3, none⟩ = some (.int .i64 1) ∧ w'.cell? ⟨z, 4, none⟩ = some (.int .i64 ln) ∧ w'.cell? ⟨z, 5, none⟩ = some (.slice (some ⟨q, 0, none⟩) 4 c)) (first | (with_reducible exact ⟨z0, z1, z2, z3, z4, z5⟩) | exact six_al h6 _ | exact six_al (six_al h6 _) _ | exact six_al (six_al (six_al h6 _) _) _ | exact six_al (six_al (six_al (six_al h6 _) _) _) _ | go_keep) ((go_at_call 107; refine (hlong.out _).mono ?_; rintro e0 w' ⟨rfl, rfl⟩))
    all_goals
      go_wp2_with fail
      go_meet
      refine ⟨_, rfl, rfl, ?_, (by first | exact four_below HB.out HB.out.size _ _ _ _ | exact (four_below HB.out HB.out.size _ _ _ _).drew | exact below_drewN (four_below HB.out HB.out.size _ _ _ _) _)⟩
      have hs0 := HB.out.size
      obtain ⟨h0, h1, h2, h3⟩ := four_made W _ _ _ _
      first
        | exact ⟨2, q, c, _, _, _, h3, h0, h1, h2, by omega, by omega, by omega, by omega, by omega⟩
        | exact ⟨2, q, c, _, _, _, h3, h0, h2, h1, by omega, by omega, by omega, by omega, by omega⟩
        | exact ⟨2, q, c, _, _, _, h3, h1, h0, h2, by omega, by omega, by omega, by omega, by omega⟩
        | exact ⟨2, q, c, _, _, _, h3, h1, h2, h0, by omega, by omega, by omega, by omega, by omega⟩
        | exact ⟨2, q, c, _, _, _, h3, h2, h0, h1, by omega, by omega, by omega, by omega, by omega⟩
        | exact ⟨2, q, c, _, _, _, h3, h2, h1, h0, by omega, by omega, by omega, by omega, by omega⟩
  case rest =>
    obtain ⟨p, rfl, rfl, HX⟩ := hcut
    go_wp2_with fail
    go_ret2
    exact ⟨p, rfl, HX.out.1, HX.out.2⟩
end
end Go.Proofs.YtopbojifllnckaaGreatDoor
