/- The example of the chapter: true. -/
import Derived.Test.YtdobilcfjpmakaaLoads
namespace Go.Proofs.Ytdobilcfjpmakaa
open Go.RowKit
attribute [local irreducible] wpQuiet

theorem blk_three (w : World) (a b c : Int) : IntsAt (w.alloc (.cells #[.int .i64 a, .int .i64 b, .int .i64 c] 3)) (w.alloc (.cells #[.int .i64 a, .int .i64 b, .int .i64 c] 3)).heap.size (some ⟨w.heap.size, 0, none⟩) [a, b, c] :=
  IntsAt.blk (Blk.new w 3 _) rfl (Blk.new w 3 _).lt

set_option maxRecDepth 100000 in
set_option maxHeartbeats 1000000 in
theorem awake_any (w : World) : Calls Try.prog 7 #[] w fun e w' => e = .returned (.bool true) ∧ Below w.heap.size w w' := by
  have a1 : allR [5, 6, 7] 1 = ([6, 7, 5], 0) := by decide
  have a2 : serverR [5, 6, 7] 1 2 = (5, 0) := by decide
  have a3 : indexR [5, 6, 7] 1 5 = (2, 0) := by decide
  have a4 : indexR [5, 6, 7] 1 9 = (0, 7) := by decide
  have a5 : serverR [5, 6, 7] 1 (((3 : Nat) : Int) - 1) = (5, 0) := by decide
  have a6 : allR [5, 6, 7] (-1) = ([], 1) := by decide
  have a7 : loadsR [5, 6, 7] 4 = [1, 1, 2] := by decide
  have q1 := fun W A c B h hB => all_any (A := A) (n := 3) (c := c) (B := B) (xs := [5, 6, 7]) (s := 1) (w := W) h hB rfl
  have q2 := fun W A c B h hB => server_any (A := A) (n := 3) (c := c) (B := B) (xs := [5, 6, 7]) (s := 1) (i := 2) (w := W) h hB rfl
  have q3 := fun W A c B h hB => index_any (A := A) (n := 3) (c := c) (B := B) (xs := [5, 6, 7]) (s := 1) (x := 5) (w := W) h hB rfl
  have q4 := fun W A c B h hB => index_any (A := A) (n := 3) (c := c) (B := B) (xs := [5, 6, 7]) (s := 1) (x := 9) (w := W) h hB rfl
  have q5 := fun W A c B h hB => parity_any (A := A) (n := 3) (c := c) (B := B) (xs := [5, 6, 7]) (s := 1) (w := W) h hB rfl
  have q6 := fun W A c B h hB => all_any (A := A) (n := 3) (c := c) (B := B) (xs := [5, 6, 7]) (s := -1) (w := W) h hB rfl
  have q7 := fun W A c B h => loads_any (A := A) (n := 3) (c := c) (B := B) (xs := [5, 6, 7]) (s := 4) (w := W) h rfl
  rw [a1] at q1
  rw [a2] at q2
  rw [a3] at q3
  rw [a4] at q4
  rw [a5] at q5
  rw [a6] at q6
  rw [a7] at q7
  have h3 : 3 ≤ maxLen := by unfold maxLen; omega
  have Q1 := hid q1
  have Q2 := hid q2
  have Q3 := hid q3
  have Q4 := hid q4
  have Q5 := hid q5
  have Q6 := hid q6
  have Q7 := hid q7
  clear a1 a2 a3 a4 a5 a6 a7 q1 q2 q3 q4 q5 q6 q7
  have B0 : Hid (Below w.heap.size w (w.alloc (.cells #[.int .i64 5, .int .i64 6, .int .i64 7] 3))) := hid ((Below.refl _ _).alloc (Nat.le_refl _) _)
  have H0 := hid (blk_three w 5 6 7)
  go_enter Try.func7, Try.ntmps7
  go_wp2_with fail
  obtain ⟨w0, hw0⟩ : ∃ w0, w0 = w.alloc (.cells #[.int .i64 5, .int .i64 6, .int .i64 7] 3) := ⟨_, rfl⟩
  rw [← hw0] at B0 H0 ⊢
  clear hw0
  refine (Q1.out _ _ _ _ H0 (Nat.le_refl _) (by omega) h3).mono ?_
  rintro e w1 ⟨A1, c1, rfl, hr, hb⟩
  have R1 := hid hr
  have B1 := hid hb
  clear hr hb
  go_wp2_with fail
  have H1 := hid (H0.out.below B1.out)
  refine (Q2.out _ _ _ _ H1 B1.out.size (by omega) h3).mono ?_
  rintro e w2 ⟨rfl, hb⟩
  have B2 := hid (B1.out.trans (hb.mono B1.out.size))
  have C2 := hid hb
  clear hb
  go_wp2_with fail
  have H2 := hid (H0.out.below B2.out)
  refine (Q3.out _ _ _ _ H2 B2.out.size (by omega) h3).mono ?_
  rintro e w3 ⟨rfl, hb⟩
  have B3 := hid (B2.out.trans (hb.mono B2.out.size))
  have C3 := hid (C2.out.trans (hb.mono C2.out.size))
  clear hb
  go_wp2_with fail
  have H3 := hid (H0.out.below B3.out)
  refine (Q4.out _ _ _ _ H3 B3.out.size (by omega) h3).mono ?_
  rintro e w4 ⟨rfl, hb⟩
  have B4 := hid (B3.out.trans (hb.mono B3.out.size))
  have C4 := hid (C3.out.trans (hb.mono C3.out.size))
  clear hb
  go_wp2_with fail
  have H4 := hid (H0.out.below B4.out)
  refine (Q5.out _ _ _ _ H4 B4.out.size (by omega) h3).mono ?_
  rintro e w5 ⟨rfl, hb⟩
  have B5 := hid (B4.out.trans (hb.mono B4.out.size))
  have C5 := hid (C4.out.trans (hb.mono C4.out.size))
  clear hb
  go_wp2_with fail
  have H5 := hid (H0.out.below B5.out)
  refine (Q6.out _ _ _ _ H5 B5.out.size (by omega) h3).mono ?_
  rintro e w6 ⟨A6, c6, rfl, _, hb⟩
  have B6 := hid (B5.out.trans (hb.mono B5.out.size))
  have C6 := hid (C5.out.trans (hb.mono C5.out.size))
  clear hb
  go_wp2_with fail
  have R6 := hid ((R1.out.below C6.out).below ((Below.refl w1.heap.size w6).alloc C6.out.size (.cells #[.int .i64 6, .int .i64 7, .int .i64 5] 3)))
  have L6 := hid (blk_three w6 6 7 5)
  refine (ints_any (n := 3) (n' := 3) R6 rfl L6 rfl h3).mono ?_
  rintro e w7 ⟨rfl, m7, rfl⟩
  have B7 := hid (below_drewN (B6.out.alloc B6.out.size (.cells #[.int .i64 6, .int .i64 7, .int .i64 5] 3)) m7)
  obtain ⟨w8, hw8⟩ : ∃ w8, w8 = (w6.alloc (.cells #[.int .i64 6, .int .i64 7, .int .i64 5] 3)).drewN m7 := ⟨_, rfl⟩
  rw [← hw8] at B7 ⊢
  clear hw8
  go_wp2_with fail
  have H7 := hid (H0.out.below B7.out)
  refine (Q7.out _ _ _ _ H7 (by omega) h3).mono ?_
  rintro e w9 ⟨A9, c9, rfl, hr, hb⟩
  have B9 := hid (B7.out.trans (hb.mono B7.out.size))
  have R9 := hid (hr.below ((Below.refl w9.heap.size w9).alloc (Nat.le_refl _) (.cells #[.int .i64 1, .int .i64 1, .int .i64 2] 3)))
  clear hr hb
  go_wp2_with fail
  have L9 := hid (blk_three w9 1 1 2)
  refine (ints_any (n := 3) (n' := 3) R9 rfl L9 rfl h3).mono ?_
  rintro e w10 ⟨rfl, m10, rfl⟩
  have B10 := hid (below_drewN (B9.out.alloc B9.out.size (.cells #[.int .i64 1, .int .i64 1, .int .i64 2] 3)) m10)
  go_wp2_with fail
  go_ret
  exact ⟨rfl, B0.out.trans (B10.out.mono B0.out.size)⟩

end Go.Proofs.Ytdobilcfjpmakaa
