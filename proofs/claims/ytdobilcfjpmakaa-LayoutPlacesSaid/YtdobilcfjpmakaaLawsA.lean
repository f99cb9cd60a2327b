/- LayoutPlaces, LayoutLoads: the walks of these laws. -/
import Derived.Test.YtdobilcfjpmakaaAwake
namespace Go.Proofs.Ytdobilcfjpmakaa
open Go.RowKit
attribute [local irreducible] wpQuiet

set_option maxRecDepth 100000 in
set_option maxHeartbeats 1000000 in
theorem places_walk {A : Option Addr} {n c : Nat} (s i : Int) (w : World) (hh : ∃ l : List Int, l.length = n ∧ n ≤ c ∧ c ≤ maxLen ∧ IntsAt w w.heap.size A l) :
    Calls Try.prog 3 #[.slice A n c, .int .i64 s, .int .i64 i] w fun e w' => e = .returned (.bool true) ∧ Below w.heap.size w w' := by
  obtain ⟨xs, hn, hc, hl, h0⟩ := hh
  have H0 := hid h0
  clear h0
  by_cases h100 : 100 < n
  · go_enter Try.func3, Try.ntmps3
    go_wp2_with fail
    refine (awake_any _).mono ?_
    rintro e w1 ⟨rfl, hb⟩
    have B1 := hid hb
    clear hb
    go_wp2_with fail
    go_ret
    exact ⟨rfl, B1.out⟩
  · have q1 := fun W A c B h hB => all_any (A := A) (n := n) (c := c) (B := B) (xs := xs) (s := s) (w := W) h hB hn
    have q2 := fun W A c B h hB => refall_any (A := A) (n := n) (c := c) (B := B) (xs := xs) (s := s) (w := W) h hB hn
    have q3 := fun W A c B h hB => server_any (A := A) (n := n) (c := c) (B := B) (xs := xs) (s := s) (i := i) (w := W) h hB hn
    have q4 := fun W A c B h => refserver_any (A := A) (n := n) (c := c) (B := B) (xs := xs) (s := s) (i := i) (w := W) h hn
    have q5 := fun W A c B h hB => index_any (A := A) (n := n) (c := c) (B := B) (xs := xs) (s := s) (x := i) (w := W) h hB hn
    have q6 := fun W A c B h hB => refindex_any (A := A) (n := n) (c := c) (B := B) (xs := xs) (s := s) (x := i) (w := W) h hB hn
    have hall : (allR xs s).1.length ≤ 100 := by
      unfold allR
      split
      · rw [rowR_length]; omega
      · simp
    obtain ⟨⟨ys, ce⟩, hr1⟩ : ∃ r, r = allR xs s := ⟨_, rfl⟩
    rw [← hr1] at q1 q2 hall
    obtain ⟨⟨v, cv⟩, hr2⟩ : ∃ r, r = serverR xs s i := ⟨_, rfl⟩
    rw [← hr2] at q3 q4
    obtain ⟨⟨u, cu⟩, hr3⟩ : ∃ r, r = indexR xs s i := ⟨_, rfl⟩
    rw [← hr3] at q5 q6
    obtain ⟨m, hm⟩ : ∃ m, m = ys.length := ⟨_, rfl⟩
    simp only [← hm] at q1 q2 hall
    have HM := hid hm.symm
    have hml : m ≤ maxLen := by unfold maxLen; omega
    have Q1 := hid q1
    have Q2 := hid q2
    have Q3 := hid q3
    have Q4 := hid q4
    have Q5 := hid q5
    have Q6 := hid q6
    clear hr1 hr2 hr3 q1 q2 q3 q4 q5 q6 hall hm hn
    go_enter Try.func3, Try.ntmps3
    go_wp2_with fail
    refine (Q1.out _ _ _ _ H0 (Nat.le_refl _) hc hl).mono ?_
    rintro e w1 ⟨A1, c1, rfl, hr, hb⟩
    have R1 := hid hr
    have B1 := hid hb
    clear hr hb
    go_wp2_with fail
    have H1 := hid (H0.out.below B1.out)
    refine (Q2.out _ _ _ _ H1 B1.out.size hc hl).mono ?_
    rintro e w2 ⟨A2, c2, rfl, hr, hb⟩
    have R2 := hid hr
    have B2 := hid (B1.out.trans (hb.mono B1.out.size))
    have C2 := hid hb
    clear hr hb
    go_wp2_with fail
    have H2 := hid (H0.out.below B2.out)
    refine (Q3.out _ _ _ _ H2 B2.out.size hc hl).mono ?_
    rintro e w3 ⟨rfl, hb⟩
    have B3 := hid (B2.out.trans (hb.mono B2.out.size))
    have C3 := hid (C2.out.trans (hb.mono C2.out.size))
    have D3 := hid hb
    clear hb
    go_wp2_with fail
    have H3 := hid (H0.out.below B3.out)
    refine (Q4.out _ _ _ _ H3 hc hl).mono ?_
    rintro e w4 ⟨rfl, hb⟩
    have B4 := hid (B3.out.trans (hb.mono B3.out.size))
    have C4 := hid (C3.out.trans (hb.mono C3.out.size))
    have D4 := hid (D3.out.trans (hb.mono D3.out.size))
    clear hb
    go_wp2_with fail
    have H4 := hid (H0.out.below B4.out)
    refine (Q5.out _ _ _ _ H4 B4.out.size hc hl).mono ?_
    rintro e w5 ⟨rfl, hb⟩
    have B5 := hid (B4.out.trans (hb.mono B4.out.size))
    have C5 := hid (C4.out.trans (hb.mono C4.out.size))
    have D5 := hid (D4.out.trans (hb.mono D4.out.size))
    clear hb
    go_wp2_with fail
    have H5 := hid (H0.out.below B5.out)
    refine (Q6.out _ _ _ _ H5 B5.out.size hc hl).mono ?_
    rintro e w6 ⟨rfl, hb⟩
    have B6 := hid (B5.out.trans (hb.mono B5.out.size))
    have C6 := hid (C5.out.trans (hb.mono C5.out.size))
    have D6 := hid (D5.out.trans (hb.mono D5.out.size))
    clear hb
    go_wp2_with fail
    refine (ints_any (hid (R1.out.below C6.out)) HM.out (hid (R2.out.below D6.out)) HM.out hml).mono ?_
    rintro e w7 ⟨rfl, m7, rfl⟩
    rw [decide_eq_true (rfl : ys = ys)]
    have B7 := hid (below_drewN B6.out m7)
    go_wp2_with fail
    refine (awake_any _).mono ?_
    rintro e w8 ⟨rfl, hb⟩
    have B8 := hid (B7.out.trans (hb.mono B7.out.size))
    clear hb
    go_wp2_with fail
    go_ret
    exact ⟨rfl, B8.out⟩

set_option maxHeartbeats 1000000 in
theorem loads_walk {A : Option Addr} {n c : Nat} (s : Int) (w : World) (hh : ∃ l : List Int, l.length = n ∧ n ≤ c ∧ c ≤ maxLen ∧ IntsAt w w.heap.size A l) :
    Calls Try.prog 4 #[.slice A n c, .int .i64 s] w fun e w' => e = .returned (.bool true) ∧ Below w.heap.size w w' := by
  obtain ⟨xs, hn, hc, hl, h0⟩ := hh
  have H0 := hid h0
  clear h0
  by_cases h100 : 100 < n
  · go_enter Try.func4, Try.ntmps4
    go_wp2_with fail
    refine (awake_any _).mono ?_
    rintro e w1 ⟨rfl, hb⟩
    have B1 := hid hb
    clear hb
    go_wp2_with fail
    go_ret
    exact ⟨rfl, B1.out⟩
  · have q1 := fun W A c B h => loads_any (A := A) (n := n) (c := c) (B := B) (xs := xs) (s := s) (w := W) h hn
    have q2 := fun W A c B h => refloads_any (A := A) (n := n) (c := c) (B := B) (xs := xs) (s := s) (w := W) h hn
    have hall : (loadsR xs s).length ≤ 100 := by
      unfold loadsR
      split
      · rw [loadsN_length]; omega
      · simp
    obtain ⟨ys, hr1⟩ : ∃ r, r = loadsR xs s := ⟨_, rfl⟩
    rw [← hr1] at q1 q2 hall
    obtain ⟨m, hm⟩ : ∃ m, m = ys.length := ⟨_, rfl⟩
    simp only [← hm] at q1 q2 hall
    have HM := hid hm.symm
    have hml : m ≤ maxLen := by unfold maxLen; omega
    have Q1 := hid q1
    have Q2 := hid q2
    clear hr1 q1 q2 hall hm hn
    go_enter Try.func4, Try.ntmps4
    go_wp2_with fail
    refine (Q1.out _ _ _ _ H0 hc hl).mono ?_
    rintro e w1 ⟨A1, c1, rfl, hr, hb⟩
    have R1 := hid hr
    have B1 := hid hb
    clear hr hb
    go_wp2_with fail
    have H1 := hid (H0.out.below B1.out)
    refine (Q2.out _ _ _ _ H1 hc hl).mono ?_
    rintro e w2 ⟨A2, c2, rfl, hr, hb⟩
    have R2 := hid hr
    have B2 := hid (B1.out.trans (hb.mono B1.out.size))
    have C2 := hid hb
    clear hr hb
    go_wp2_with fail
    refine (ints_any (hid (R1.out.below C2.out)) HM.out R2 HM.out hml).mono ?_
    rintro e w7 ⟨rfl, m7, rfl⟩
    rw [decide_eq_true (rfl : ys = ys)]
    have B7 := hid (below_drewN B2.out m7)
    go_wp2_with fail
    refine (awake_any _).mono ?_
    rintro e w8 ⟨rfl, hb⟩
    have B8 := hid (B7.out.trans (hb.mono B7.out.size))
    clear hb
    go_wp2_with fail
    go_ret
    exact ⟨rfl, B8.out⟩

end Go.Proofs.Ytdobilcfjpmakaa
