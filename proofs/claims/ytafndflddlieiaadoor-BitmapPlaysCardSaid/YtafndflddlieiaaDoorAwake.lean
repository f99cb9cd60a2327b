/- The example of the chapter (awake) answers true, wherever the library's table stands; BitmapNone. -/
import Derived.Test.YtafndflddlieiaaDoorRead
namespace Go.Proofs.YtafndflddlieiaaDoor
open Go.RowKit
attribute [local irreducible] wpQuiet
attribute [local go_sem high] run_mxI run_mnI

def aW1 : Nat → BitVec 64 := setW (fun _ => 0#64) 0 true
def aW2 : Nat → BitVec 64 := setW aW1 3 true
def aW3 : Nat → BitVec 64 := rowW aW2 1 true 2
def aW4 : Nat → BitVec 64 := rowW aW3 1 false 3
theorem aw_find2 : findR ((2 : Nat) : Int) (rowsF (isP aW2 false) (isP aW2 true) 8 0) = ((1 : Nat) : Int) := by decide +kernel
theorem aw_next3 : nextF (isP aW3 false) 8 1 = 4 := by decide +kernel
theorem aw_next4 : nextF (isP aW4 false) 8 1 = 1 := by decide +kernel
theorem aw_text : textL 8 aW4 = [1] := by decide +kernel
theorem aw_count : cntW aW4 64 = 1 := by decide +kernel
theorem aw_find7 : findR 7 (rowsF (isP aW4 false) (isP aW4 true) 8 0) = 1 := by decide +kernel
def aS : ByteArray := ⟨#[1]⟩
theorem aw_read : eqW (rowW (fillW aS 1) 8 false 0) (fillW aS 1) = true := by decide +kernel
theorem aw_get : bitW (fillW aS 1) 0 = true ∧ bitW (fillW aS 1) 1 = false := by decide +kernel

set_option maxRecDepth 100000 in
set_option maxHeartbeats 2000000 in
theorem awake_any {w : World} (hT : Hid (TabIs w)) : Calls Tryd.prog 8 #[] w fun e w' => e = .returned (.bool true) ∧ Below w.heap.size w w' := by
  have ht0 := hT.out.lt
  have key : ∀ w' : World, Below w.heap.size w w' → TabIs w' := fun _ hb => hT.out.below hb ht0
  have KEY := hid key
  clear key
  obtain ⟨b, hb⟩ : ∃ b, b = w.heap.size := ⟨_, rfl⟩
  have HBe := hid hb
  go_enter Tryd.func8, Tryd.ntmps8
  go_wp2_with fail
  refine (new_any (N := 8) (by decide)).mono ?_
  rw [← hb]
  clear hb
  rintro e w1 ⟨rfl, hm, hb1⟩
  have M1 := hid hm
  have B1 := hid hb1
  clear hm hb1
  go_wp2_with fail
  refine (set_yes (x := 0) M1 true (by omega) (by omega)).mono ?_
  rintro e w2 ⟨rfl, hm, ho⟩
  have M2 := hid (show MapIs w2 b 8 aW1 from hm)
  have B2 := hid (B1.out.trans (ho.below (B := b) (by have := Blk.lt M1.out; omega) (fun k hk e => by omega)))
  clear hm ho M1 B1
  go_wp2_with fail
  refine (set_yes (x := 3) M2 true (by omega) (by omega)).mono ?_
  rintro e w3 ⟨rfl, hm, ho⟩
  have M3 := hid (show MapIs w3 b 8 aW2 from hm)
  have B3 := hid (B2.out.trans (ho.below (B := b) (by have := Blk.lt M2.out; omega) (fun k hk e => by omega)))
  clear hm ho M2 B2
  go_wp2_with fail
  refine (set_no (x := 8) M3 true (by decide)).mono ?_
  rintro e w4 ⟨rfl, rfl⟩
  go_wp2_with fail
  refine (take_yes (x := 2) (r := 1) M3 (hid (KEY.out _ (by rw [← HBe.out]; exact B3.out))) (by omega) (by omega) aw_find2 (by omega)).mono ?_
  rintro e w4 ⟨rfl, hm, ho⟩
  have M4 := hid (show MapIs w4 b 8 aW3 from hm)
  have B4 := hid (B3.out.trans (ho.below (B := b) (by have := Blk.lt M3.out; omega) (fun k hk e => by omega)))
  clear hm ho M3 B3
  go_wp2_with fail
  refine (free_ok (a := 1) (l := 3) M4 (hid (KEY.out _ (by rw [← HBe.out]; exact B4.out))) (by omega) (by omega) (by omega)).mono ?_
  intro e w5 hf
  have hf' : e = .returned (.int .i64 0) ∧ MapIs w5 b 8 (rowW aW3 1 false 3) ∧ Only (fun k => k = b) w4 w5 := by
    rcases hf with ⟨h1, _⟩ | ⟨_, h2⟩
    · rw [aw_next3] at h1; omega
    · exact h2
  obtain ⟨rfl, hm, ho⟩ := hf'
  have M5 := hid (show MapIs w5 b 8 aW4 from hm)
  have B5 := hid (B4.out.trans (ho.below (B := b) (by have := Blk.lt M4.out; omega) (fun k hk e => by omega)))
  clear hm ho M4 B4 hf
  go_wp2_with fail
  refine (free_ok (a := 1) (l := 1) M5 (hid (KEY.out _ (by rw [← HBe.out]; exact B5.out))) (by omega) (by omega) (by omega)).mono ?_
  intro e w6 hf
  have hf' : e = .returned (.int .i64 7) ∧ Below w5.heap.size w5 w6 := by
    rcases hf with ⟨_, h2⟩ | ⟨h1, _⟩
    · exact h2
    · rw [aw_next4] at h1; omega
  obtain ⟨rfl, hb6⟩ := hf'
  have M6 := hid (show MapIs w6 b 8 aW4 from Blk.below M5.out hb6 (Blk.lt M5.out))
  have B6 := hid (B5.out.trans (hb6.mono (by have := Blk.lt M5.out; omega)))
  clear hb6 M5 B5 hf
  go_wp2_with fail
  refine (read_any aS (n := 8) (by omega) (by rfl) _).mono ?_
  intro e w7 hf
  have hf' : e = .returned (.tuple #[.pointer (some ⟨w6.heap.size, 0, none⟩), .int .i64 0]) ∧ MapIs w7 w6.heap.size 8 (fillW aS 1) ∧ Below w6.heap.size w6 w7 := by
    rcases hf with ⟨_, h2⟩ | ⟨h1, _⟩
    · exact h2
    · exact absurd (aw_read.symm.trans h1) (by decide)
  obtain ⟨rfl, hm, hb7⟩ := hf'
  have M7 := hid (show MapIs w7 b 8 aW4 from Blk.below M6.out hb7 (Blk.lt M6.out))
  have N7 := hid hm
  have B7 := hid (B6.out.trans (hb7.mono (by have := Blk.lt M6.out; omega)))
  clear hm hb7 M6 B6 hf
  go_wp2_with fail
  refine (text_any M7 (by omega)).mono ?_
  rw [aw_text]
  rintro e w8 ⟨rfl, hb8⟩
  have M8 := hid (show MapIs w8 b 8 aW4 from Blk.below M7.out hb8 (Blk.lt M7.out))
  have N8 := hid (Blk.below N7.out hb8 (Blk.lt N7.out))
  have B8 := hid (B7.out.trans (hb8.mono (by have := Blk.lt M7.out; omega)))
  clear hb8 M7 N7 B7
  go_wp2_with fail
  refine (count_any M8).mono ?_
  rw [aw_count]
  rintro e w9 ⟨rfl, rfl⟩
  go_wp2_with fail
  refine (find_any M8 (hid (KEY.out _ (by rw [← HBe.out]; exact B8.out))) (by omega) 7).mono ?_
  rw [aw_find7]
  rintro e w9 ⟨rfl, hb9⟩
  have N9 := hid (Blk.below N8.out hb9 (Blk.lt N8.out))
  have B9 := hid (B8.out.trans (hb9.mono (by have := Blk.lt M8.out; omega)))
  clear hb9 M8 N8 B8
  go_wp2_with fail
  refine (get_yes (x := 0) N9 (by omega) (by omega)).mono ?_
  rw [aw_get.1]
  rintro e w10 ⟨rfl, rfl⟩
  go_wp2_with fail
  refine (get_yes (x := 1) N9 (by omega) (by omega)).mono ?_
  rw [aw_get.2]
  rintro e w10 ⟨rfl, rfl⟩
  go_wp2_with fail
  go_ret
  exact ⟨rfl, by rw [← HBe.out]; exact B9.out⟩

set_option maxHeartbeats 1000000 in
theorem none_walk (k a l : Int) {w : World} (hT : Hid (TabIs w)) :
    Calls Tryd.prog 7 #[.agg #[.int .i64 k, .int .i64 a, .int .i64 l]] w fun e w' => e = .returned (.bool true) ∧ Below w.heap.size w w' := by
  have ht0 := hT.out.lt
  have hbx := hid (Blk.new w 28 #[.int .i64 k, .int .i64 a, .int .i64 l])
  obtain ⟨w0, hw0⟩ : ∃ w0, w0 = w.alloc (.cells #[.int .i64 k, .int .i64 a, .int .i64 l] 28) := ⟨_, rfl⟩
  have hB0 := hid (show Below w.heap.size w w0 by rw [hw0]; exact (Below.refl _ _).alloc (Nat.le_refl _) _)
  rw [← hw0] at hbx
  have c1 : w0.cell? ⟨w.heap.size, 1, none⟩ = some (.int .i64 a) := by rw [hbx.out.cell]; rfl
  have HW := hid hw0
  clear hw0
  go_enter Tryd.func7, Tryd.ntmps7
  go_wp2_with fail
  rw [← HW.out]
  refine (take_nil _ _).mono ?_
  rintro e w1 ⟨rfl, rfl⟩
  go_wp2_with fail
  refine (set_nil _ _ _).mono ?_
  rintro e w1 ⟨rfl, rfl⟩
  go_wp2_with fail
  refine (get_nil _ _).mono ?_
  rintro e w1 ⟨rfl, rfl⟩
  go_wp2_with fail
  refine (count_nil _).mono ?_
  rintro e w1 ⟨rfl, rfl⟩
  go_wp2_with fail
  refine (find_nil _ _).mono ?_
  rintro e w1 ⟨rfl, hb1⟩
  have B1 := hid hb1
  clear hb1
  go_wp2_with fail
  refine (runs_nil _ _).mono ?_
  rintro e w2 ⟨rfl, hb2⟩
  have B2 := hid (B1.out.trans (hb2.mono B1.out.size))
  have hb2x := hbx.out.below B2.out hbx.out.lt
  have d1 : w2.cell? ⟨w.heap.size, 1, none⟩ = some (.int .i64 a) := by rw [hb2x.cell]; rfl
  have d2 : w2.cell? ⟨w.heap.size, 2, none⟩ = some (.int .i64 l) := by rw [hb2x.cell]; rfl
  clear hb2 hb2x
  go_wp2_with fail
  refine (free_nil _ _ _).mono ?_
  rintro e w3 ⟨rfl, hb3⟩
  have B3 := hid (B2.out.trans (hb3.mono B2.out.size))
  clear hb3
  go_wp2_with fail
  refine (text_nil _).mono ?_
  rintro e w4 ⟨rfl, rfl⟩
  have B4 := hid (hB0.out.trans (B3.out.mono hB0.out.size))
  go_wp2_with fail
  refine (awake_any (hid (hT.out.below B4.out ht0))).mono ?_
  rintro e w5 ⟨rfl, hb5⟩
  have B5 := hid (B4.out.trans (hb5.mono B4.out.size))
  clear hb5
  go_wp2_with fail
  go_ret
  exact ⟨rfl, B5.out⟩
end Go.Proofs.YtafndflddlieiaaDoor
