/- imap: where inodes stand: nothing but numbers. usage: uses in memory: rows of numbers; find. usage.errno of the errors that there are. usage: Dead. -/
import Derived.Deep.DeepCutAuto
import Derived.LaidEql
import Derived.Stop.Asserts
import Derived.KernelRfl
import Derived.Test.YtopbojifllnckaaGreatDoorG25
namespace Go.Proofs.YtopbojifllnckaaGreatDoor
open Go.RowKit
attribute [local irreducible] wpQuiet
/-- Cells that are numbers. -/
def AllInt (cs : Array Value) : Prop := ∀ i, i < cs.size → ∃ n : Int, cs[i]? = some (.int .i64 n)
theorem AllInt.set {cs : Array Value} (h : AllInt cs) (i : Nat) (n : Int) : AllInt (cs.setIfInBounds i (.int .i64 n)) := fun j hj => by
  rw [Array.size_setIfInBounds] at hj
  rw [Array.getElem?_setIfInBounds]
  by_cases e : i = j
  · subst e
    rw [if_pos rfl, if_pos hj]
    exact ⟨n, rfl⟩
  · rw [if_neg e]
    exact h j hj
/-- The map of inodes in blocks of S. -/
def Imp (S : Nat → Prop) (w : World) (g : Nat) : Prop := S g ∧ ∃ cs, Blk w g 161 cs ∧ cs.size = 1024 ∧ AllInt cs
section
variable {S : Nat → Prop} {w w' : World} {g : Nat}
theorem Imp.keep (h : Imp S w g) (hk : ∀ k, S k → k < w.heap.size → w'.heap[k]? = w.heap[k]?) : Imp S w' g := by
  obtain ⟨h1, cs, h2, h3⟩ := h
  exact ⟨h1, cs, (hk g h1 h2.lt).trans h2, h3⟩
theorem imay_any (x : Int) (w : World) : Calls Tryz.prog 228 #[.int .i64 x] w fun e w' => e = .returned (.bool (decide (1 ≤ x ∧ x < 256))) ∧ w = w' := by
  by_cases h1 : 1 ≤ x
  · by_cases h2 : x < 256
    · have d : decide (1 ≤ x ∧ x < 256) = true := by simp; omega
      rw [d]
      clear d
      go_enter Tryz.func228, Tryz.ntmps228
      go_wp2_with fail
      go_ret
      exact ⟨by simp, rfl⟩
    · have d : decide (1 ≤ x ∧ x < 256) = false := by simp; omega
      rw [d]
      clear d
      go_enter Tryz.func228, Tryz.ntmps228
      go_wp2_with fail
      go_ret
      exact ⟨by simp, rfl⟩
  · have d : decide (1 ≤ x ∧ x < 256) = false := by simp; omega
    rw [d]
    clear d
    go_enter Tryz.func228, Tryz.ntmps228
    go_wp2_with fail
    go_ret
    exact ⟨by simp, rfl⟩
/-- Four numbers and a bool are given back. -/
def RSpot (e : Ending) : Prop := ∃ (a b c d : Int) (t : Bool), e = .returned (.tuple #[.agg #[.int .i64 a, .int .i64 b, .int .i64 c, .int .i64 d], .bool t])
theorem Imp.four (h : Imp S w g) {i : Nat} (hi : i < 256) : ∃ a b c d : Int, w.cell? ⟨g, i * 4, none⟩ = some (.int .i64 a) ∧ w.cell? ⟨g, i * 4 + 1, none⟩ = some (.int .i64 b) ∧ w.cell? ⟨g, i * 4 + 2, none⟩ = some (.int .i64 c) ∧ w.cell? ⟨g, i * 4 + 3, none⟩ = some (.int .i64 d) := by
  obtain ⟨_, cs, h1, h2, h3⟩ := h
  obtain ⟨a, ha⟩ := h3 (i * 4) (by omega)
  obtain ⟨b, hb⟩ := h3 (i * 4 + 1) (by omega)
  obtain ⟨c, hc⟩ := h3 (i * 4 + 2) (by omega)
  obtain ⟨d, hd⟩ := h3 (i * 4 + 3) (by omega)
  exact ⟨a, b, c, d, (h1.cell _).trans ha, (h1.cell _).trans hb, (h1.cell _).trans hc, (h1.cell _).trans hd⟩
set_option maxRecDepth 100000 in
set_option maxHeartbeats 1600000 in
theorem iGet_any (h : Imp S w g) (x : Int) : Calls Tryz.prog 162 #[.pointer (some ⟨g, 0, none⟩), .int .i64 x] w fun e w' => RSpot e ∧ Below w.heap.size w w' := by
  have hb := (Below.refl w.heap.size w).alloc (Nat.le_refl _) (.cells #[.int .i64 0, .int .i64 0, .int .i64 0, .int .i64 0] 158)
  have HB := hid hb
  by_cases hx : 1 ≤ x ∧ x < 256
  · obtain ⟨i, hi⟩ : ∃ i : Nat, x = i := ⟨x.toNat, by omega⟩
    subst hi
    have hi1 : 1 ≤ i := by omega
    have hi2 : i < 256 := by omega
    obtain ⟨a, b, c, d, e0, e1, e2, e3⟩ := Imp.four (h.keep fun k _ hk => hb.block k hk) hi2
    have d0 : decide ((1 : Int) ≤ (i : Int) ∧ (i : Int) < 256) = true := by simp; omega
    have hc := hid (imay_any (i : Int))
    rw [d0] at hc
    have hgi : (i : Int) < 256 := by omega
    clear d0 hx h hb
    have hz := Blk.new w 158 #[.int .i64 0, .int .i64 0, .int .i64 0, .int .i64 0]
    have z0 := (hz.cell 0).trans rfl; have z1 := (hz.cell 1).trans rfl; have z2 := (hz.cell 2).trans rfl; have z3 := (hz.cell 3).trans rfl
    clear hz
    by_cases hd : d = 0
    · subst hd
      go_enter Tryz.func162, Tryz.ntmps162
      go_wp2_with fail
      refine (hc.out _).mono ?_
      rintro e w1 ⟨rfl, rfl⟩
      go_wp2_with fail
      exact bodyPost_ret (v := .tuple #[.agg #[.int .i64 0, .int .i64 0, .int .i64 0, .int .i64 0], .bool false]) (by simp [results, Tryz.results162, go_sem]) rfl ⟨⟨_, _, _, _, _, rfl⟩, HB.out⟩
    · have d4 : (d == 0) = false := by simp [hd]
      clear hd
      go_enter Tryz.func162, Tryz.ntmps162
      go_wp2_with fail
      refine (hc.out _).mono ?_
      rintro e w1 ⟨rfl, rfl⟩
      go_wp2_with fail
      refine bodyPost_ret (v := .tuple #[.agg #[.int .i64 a, .int .i64 b, .int .i64 c, .int .i64 d], .bool true]) (by simp [results, Tryz.results162, go_sem]) rfl ⟨⟨_, _, _, _, _, rfl⟩, ?_⟩
      exact (Below.refl _ _).alloc (Nat.le_refl _) _
  · have d0 : decide (1 ≤ x ∧ x < 256) = false := by simp; omega
    have hc := hid (imay_any x)
    rw [d0] at hc
    clear d0 hx h hb
    go_enter Tryz.func162, Tryz.ntmps162
    go_wp2_with fail
    refine (hc.out _).mono ?_
    rintro e w1 ⟨rfl, rfl⟩
    go_wp2_with fail
    exact bodyPost_ret (v := .tuple #[.agg #[.int .i64 0, .int .i64 0, .int .i64 0, .int .i64 0], .bool false]) (by simp [results, Tryz.results162, go_sem]) rfl ⟨⟨_, _, _, _, _, rfl⟩, HB.out⟩
set_option maxRecDepth 100000 in
set_option maxHeartbeats 1600000 in
theorem ispot_any (a b c d : Int) (w : World) : Calls Tryz.prog 229 #[.agg #[.int .i64 a, .int .i64 b, .int .i64 c, .int .i64 d]] w fun e w' => RBool e ∧ Below w.heap.size w w' := by
  have hB := hid ((Below.refl w.heap.size w).alloc (Nat.le_refl _) (.cells #[.int .i64 a, .int .i64 b, .int .i64 c, .int .i64 d] 158))
  have hh : a < 0 ∨ (0 ≤ a ∧ 4096 ≤ a) ∨ (0 ≤ a ∧ a < 4096 ∧ b < 0) ∨ (0 ≤ a ∧ a < 4096 ∧ 0 ≤ b ∧ 65536 < b) ∨ (0 ≤ a ∧ a < 4096 ∧ 0 ≤ b ∧ b ≤ 65536 ∧ c < 0) ∨ (0 ≤ a ∧ a < 4096 ∧ 0 ≤ b ∧ b ≤ 65536 ∧ 0 ≤ c ∧ 65536 < c) ∨ (0 ≤ a ∧ a < 4096 ∧ 0 ≤ b ∧ b ≤ 65536 ∧ 0 ≤ c ∧ c ≤ 65536) := by omega
  rcases hh with h | h | h | h | h | h | h
  all_goals
    first | have d0 : decide (0 ≤ a) = true := by (simp; omega) | have d0 : decide (0 ≤ a) = false := by (simp; omega) | skip
    first | have d1 : decide (a < 4096) = true := by (simp; omega) | have d1 : decide (a < 4096) = false := by (simp; omega) | skip
    first | have d2 : decide (0 ≤ b) = true := by (simp; omega) | have d2 : decide (0 ≤ b) = false := by (simp; omega) | skip
    first | have d3 : decide (b ≤ 65536) = true := by (simp; omega) | have d3 : decide (b ≤ 65536) = false := by (simp; omega) | skip
    first | have d4 : decide (0 ≤ c) = true := by (simp; omega) | have d4 : decide (0 ≤ c) = false := by (simp; omega) | skip
    first | have d5 : decide (c ≤ 65536) = true := by (simp; omega) | have d5 : decide (c ≤ 65536) = false := by (simp; omega) | skip
    clear h
    go_enter Tryz.func229, Tryz.ntmps229
    go_wp2_with fail
    go_ret
    exact ⟨⟨_, rfl⟩, hB.out⟩
/-- How Move ends. -/
def IEnd (S : Nat → Prop) (w : World) (g : Nat) (e : Ending) (w' : World) : Prop := (∃ (v : Int) (r : Nat), I64 v ∧ r < 17 ∧ e = .returned (.tuple #[.int .i64 v, .int .i64 r])) ∧ Imp S w' g ∧ Only S w w'
theorem Imp.put (h : Imp S w g) (i : Nat) (n : Int) : Imp S (w.setCell ⟨g, i, none⟩ (.int .i64 n)) g := by
  obtain ⟨h1, cs, h2, h3, h4⟩ := h
  exact ⟨h1, _, h2.set_ i _, by simpa using h3, h4.set i n⟩
theorem Imp.frozen (h : Imp S w g) (i : Nat) : w.frozen? ⟨g, i, none⟩ = false := by
  obtain ⟨_, cs, h2, _⟩ := h
  exact h2.frozen i
theorem Imp.lt (h : Imp S w g) : g < w.heap.size := by
  obtain ⟨_, cs, h2, _⟩ := h
  exact h2.lt
set_option maxRecDepth 100000 in
set_option maxHeartbeats 1600000 in
theorem iMove_any (h : Imp S w g) (x ver a b c d : Int) : Calls Tryz.prog 163 #[.pointer (some ⟨g, 0, none⟩), .int .i64 x, .int .i64 ver, .agg #[.int .i64 a, .int .i64 b, .int .i64 c, .int .i64 d]] w fun e w' => IEnd S w g e w' := by
  have hb := (Below.refl w.heap.size w).alloc (Nat.le_refl _) (.cells #[.int .i64 a, .int .i64 b, .int .i64 c, .int .i64 d] 158)
  have hX := Blk.new w 158 #[.int .i64 a, .int .i64 b, .int .i64 c, .int .i64 d]
  have h1 := h.keep fun k _ hk => hb.block k hk
  have hsz : (w.alloc (.cells #[.int .i64 a, .int .i64 b, .int .i64 c, .int .i64 d] 158)).heap.size = w.heap.size + 1 := by simp
  obtain ⟨W, hW⟩ : ∃ W, W = w.alloc (.cells #[.int .i64 a, .int .i64 b, .int .i64 c, .int .i64 d] 158) := ⟨_, rfl⟩
  rw [← hW] at hb hX h1 hsz
  have hi0 : I64 0 := ⟨by omega, by omega⟩
  have HW := hid hW
  have HS := hid hsz
  have hstop : Hid (∀ w1, Below W.heap.size W w1 → Imp S w1 g ∧ Only S w w1) := fun w1 hq => ⟨h1.keep fun k _ hk => hq.block k hk, (Only.of_below hb fun k hk _ => hk).then_below (hq.mono (by omega))⟩
  have HX := hid hX
  have H1 := hid h1
  have HB := hid hb
  have hgl := h.lt
  by_cases hx : 1 ≤ x ∧ x < 256
  · obtain ⟨i, hi⟩ : ∃ i : Nat, x = i := ⟨x.toNat, by omega⟩
    subst hi
    have hi1 : 1 ≤ i := by omega
    have hi2 : i < 256 := by omega
    have hgi : (i : Int) < 256 := by omega
    have d0 : decide ((1 : Int) ≤ (i : Int) ∧ (i : Int) < 256) = true := by simp; omega
    have hc := hid (imay_any (i : Int))
    rw [d0] at hc
    obtain ⟨x0, x1, x2, x3⟩ : W.cell? ⟨w.heap.size, 0, none⟩ = some (.int .i64 a) ∧ W.cell? ⟨w.heap.size, 1, none⟩ = some (.int .i64 b) ∧ W.cell? ⟨w.heap.size, 2, none⟩ = some (.int .i64 c) ∧ W.cell? ⟨w.heap.size, 3, none⟩ = some (.int .i64 d) := ⟨(hX.cell 0).trans rfl, (hX.cell 1).trans rfl, (hX.cell 2).trans rfl, (hX.cell 3).trans rfl⟩
    clear d0 hx h hb hX h1 hsz hW
    go_enter Tryz.func163, Tryz.ntmps163
    go_wp2_with fail
    refine (hc.out _).mono ?_
    rintro e w1 ⟨rfl, rfl⟩
    rw [← HW.out]
    go_wp2_with fail
    refine (ispot_any a b c d W).mono ?_
    rintro e w2 ⟨⟨t, rfl⟩, h2⟩
    have hst := hstop.out w2 h2
    have hX2 := HX.out.below h2 (by have := HS.out; omega)
    have hs2 := h2.size
    obtain ⟨y0, y1, y2, y3⟩ : w2.cell? ⟨w.heap.size, 0, none⟩ = some (.int .i64 a) ∧ w2.cell? ⟨w.heap.size, 1, none⟩ = some (.int .i64 b) ∧ w2.cell? ⟨w.heap.size, 2, none⟩ = some (.int .i64 c) ∧ w2.cell? ⟨w.heap.size, 3, none⟩ = some (.int .i64 d) := ⟨(hX2.cell 0).trans rfl, (hX2.cell 1).trans rfl, (hX2.cell 2).trans rfl, (hX2.cell 3).trans rfl⟩
    obtain ⟨p0, p1, p2, p3, e0, e1, e2, e3⟩ := hst.1.four hi2
    have f0 := hst.1.frozen (i * 4); have f1 := hst.1.frozen (i * 4 + 1); have f2 := hst.1.frozen (i * 4 + 2); have f3 := hst.1.frozen (i * 4 + 3)
    have HST := hid hst
    clear h2 hst hX2
    cases t with
    | false =>
      go_wp2_with fail
      go_ret2
      exact ⟨⟨0, 1, hi0, by omega, rfl⟩, HST.out⟩
    | true =>
      by_cases hv : p3 = ver
      · have d1 : (p3 != ver) = false := by simp [hv]
        clear hv
        have hne : g ≠ w.heap.size := by omega
        have hio : Hid (Imp S w2 g ∧ Only S w w2) := HST.out
        clear HST hstop HX H1 HB hc HS HW x0 x1 x2 x3 hi0 hi1
        go_upto_region 6 with (fail)
        have ho4 : i * 4 + 3 < 1024 := by omega
        generalize i * 4 = o at *
        go_upto_region 7 with (fail)
        obtain ⟨W3, hW3⟩ : ∃ W3, W3 = (((w2.setCell ⟨g, o, none⟩ (.int .i64 a)).setCell ⟨g, o + 1, none⟩ (.int .i64 b)).setCell ⟨g, o + 2, none⟩ (.int .i64 c)).setCell ⟨g, o + 3, none⟩ (.int .i64 d) := ⟨_, rfl⟩
        have hI3 : Imp S W3 g := by rw [hW3]; exact (((hio.out.1.put o a).put (o + 1) b).put (o + 2) c).put (o + 3) d
        have hO3 : Only S w W3 := by rw [hW3]; exact setS hio.out.1.1 (o + 3) (.int .i64 d) (setS hio.out.1.1 (o + 2) (.int .i64 c) (setS hio.out.1.1 (o + 1) (.int .i64 b) (setS hio.out.1.1 o (.int .i64 a) hio.out.2)))
        have hz3 : w2.heap.size = W3.heap.size := by rw [hW3]; simp [World.setCell]
        rw [← hW3]
        have HI := hid (And.intro hI3 hO3)
        have q3 := hI3.frozen (o + 3)
        have hq3 : ∃ n : Int, W3.cell? ⟨g, o + 3, none⟩ = some (.int .i64 n) := by
          obtain ⟨_, cs, h1, h2, h3⟩ := hI3
          obtain ⟨n, hn⟩ := h3 (o + 3) (by omega)
          exact ⟨n, (h1.cell _).trans hn⟩
        obtain ⟨n3, hn3⟩ := hq3
        clear hW3 hI3 hO3 e0 e1 e2 e3 f0 f1 f2 f3 y0 y1 y2 y3 hz3
        go_wp2_with fail
        go_ret2
        exact ⟨⟨_, 0, wrap64_in _, by omega, rfl⟩, HI.out.1.put (o + 3) (wrap64 (ver + 1)), setS HI.out.1.1 (o + 3) (.int .i64 (wrap64 (ver + 1))) HI.out.2⟩
      · have d1 : (p3 != ver) = true := by simp [hv]
        clear hv
        go_wp2_with fail
        go_ret2
        exact ⟨⟨0, 10, hi0, by omega, rfl⟩, HST.out⟩
  · have d0 : decide (1 ≤ x ∧ x < 256) = false := by simp; omega
    have hc := hid (imay_any x)
    rw [d0] at hc
    clear d0 hx h hb hX h1 hsz hW
    go_enter Tryz.func163, Tryz.ntmps163
    go_wp2_with fail
    refine (hc.out _).mono ?_
    rintro e w1 ⟨rfl, rfl⟩
    rw [← HW.out]
    go_wp2_with fail
    go_ret2
    exact ⟨⟨0, 1, hi0, by omega, rfl⟩, hstop.out W (Below.refl _ _)⟩
end
end Go.Proofs.YtopbojifllnckaaGreatDoor
namespace Go.Proofs.YtopbojifllnckaaGreatDoor
open Go.RowKit
attribute [local irreducible] wpQuiet
/-- A row of uses: n of them, room for c. -/
def IRow (S : Nat → Prop) (w : World) (A : Option Addr) (n c : Nat) : Prop :=
  (A = none ∧ n = 0 ∧ c = 0) ∨ ∃ r cur, A = some ⟨r, 0, none⟩ ∧ S r ∧ Blk w r 336 cur ∧ n ≤ c ∧ c ≤ maxLen ∧ cur.size = c * 4 ∧ AllInt cur
/-- The uses in blocks of S: at most N. -/
def Usg (S : Nat → Prop) (w : World) (g N : Nat) : Prop := ∃ A n c, Blk w g 164 #[.slice A n c] ∧ S g ∧ n ≤ N ∧ IRow S w A n c
section
variable {S T : Nat → Prop} {w w' : World} {g N n c : Nat} {A : Option Addr}
theorem IRow.keep (h : IRow S w A n c) (hk : ∀ k, S k → k < w.heap.size → w'.heap[k]? = w.heap[k]?) : IRow S w' A n c := by
  rcases h with h | ⟨r, cur, h1, h2, h3, h4⟩
  · exact .inl h
  · exact .inr ⟨r, cur, h1, h2, (hk r h2 h3.lt).trans h3, h4⟩
theorem IRow.mono (h : IRow S w A n c) (hST : ∀ k, S k → T k) : IRow T w A n c := by
  rcases h with h | ⟨r, cur, h1, h2, h3⟩
  · exact .inl h
  · exact .inr ⟨r, cur, h1, hST _ h2, h3⟩
theorem Usg.keep (h : Usg S w g N) (hk : ∀ k, S k → k < w.heap.size → w'.heap[k]? = w.heap[k]?) : Usg S w' g N := by
  obtain ⟨A, n, c, h1, h2, h3, h4⟩ := h
  exact ⟨A, n, c, (hk g h2 h1.lt).trans h1, h2, h3, h4.keep hk⟩
theorem Usg.mono (h : Usg S w g N) (hST : ∀ k, S k → T k) {M : Nat} (hM : N ≤ M) : Usg T w g M := by
  obtain ⟨A, n, c, h1, h2, h3, h4⟩ := h
  exact ⟨A, n, c, h1, hST _ h2, by omega, h4.mono hST⟩
theorem IRow.four (h : IRow S w A n c) {i : Nat} (hi : i < n) : ∃ r, A = some ⟨r, 0, none⟩ ∧ S r ∧ r < w.heap.size ∧ ∃ a b d e : Int, w.cell? ⟨r, i * 4, none⟩ = some (.int .i64 a) ∧ w.cell? ⟨r, i * 4 + 1, none⟩ = some (.int .i64 b) ∧ w.cell? ⟨r, i * 4 + 2, none⟩ = some (.int .i64 d) ∧ w.cell? ⟨r, i * 4 + 3, none⟩ = some (.int .i64 e) := by
  rcases h with ⟨_, h, _⟩ | ⟨r, cur, rfl, h1, h2, h3, _, h4, h5⟩
  · omega
  · obtain ⟨a, ha⟩ := h5 (i * 4) (by omega)
    obtain ⟨b, hb⟩ := h5 (i * 4 + 1) (by omega)
    obtain ⟨d, hd⟩ := h5 (i * 4 + 2) (by omega)
    obtain ⟨e, he⟩ := h5 (i * 4 + 3) (by omega)
    exact ⟨r, rfl, h1, h2.lt, a, b, d, e, (h2.cell _).trans ha, (h2.cell _).trans hb, (h2.cell _).trans hd, (h2.cell _).trans he⟩
/-- A number is given back. -/
def RInt (e : Ending) : Prop := ∃ n : Int, e = .returned (.int .i64 n)
theorem ucmp_any (a b d e x : Int) (w : World) : Calls Tryz.prog 294 #[.agg #[.int .i64 a, .int .i64 b, .int .i64 d, .int .i64 e], .int .i64 x] w fun r w' => RInt r ∧ Below w.heap.size w w' := by
  have hb := hid ((Below.refl w.heap.size w).alloc (Nat.le_refl _) (.cells #[.int .i64 a, .int .i64 b, .int .i64 d, .int .i64 e] 336))
  by_cases h1 : a < x
  · go_enter Tryz.func294, Tryz.ntmps294
    go_wp2_with fail
    go_ret
    exact ⟨⟨_, rfl⟩, hb.out⟩
  · by_cases h2 : x < a
    · go_enter Tryz.func294, Tryz.ntmps294
      go_wp2_with fail
      go_ret
      exact ⟨⟨_, rfl⟩, hb.out⟩
    · go_enter Tryz.func294, Tryz.ntmps294
      go_wp2_with fail
      go_ret
      exact ⟨⟨_, rfl⟩, hb.out⟩
/-- A place is given back, and whether it is just there. -/
def RFind (n : Nat) (e : Ending) : Prop := ∃ (i : Nat) (t : Bool), i ≤ n ∧ (t = true → i < n) ∧ e = .returned (.tuple #[.int .i64 i, .bool t])
set_option maxRecDepth 100000 in
set_option maxHeartbeats 1600000 in
theorem ubin_any (h : IRow S w A n c) (hn : n ≤ 1000000) (x : Int) :
    Calls Tryz.prog 293 #[.slice A n c, .int .i64 x, .func (.func 294) #[] #[]] w fun e w' => RFind n e ∧ Below w.heap.size w w' := by
  have H := hid h
  clear h
  go_enter Tryz.func293, Tryz.ntmps293
  go_wp2_with fail
  go_loopw [9, 10] (fun v9 v10 wr => ∃ i j : Nat, i ≤ j ∧ j ≤ n ∧ v9 = .int .i64 i ∧ v10 = .int .i64 j ∧ Hid (Below w.heap.size w wr)) (fun v9 v10 _ => (intOf v10).toNat - (intOf v9).toNat)
  case atStart => exact ⟨0, n, Nat.zero_le _, Nat.le_refl _, rfl, rfl, Below.refl _ _⟩
  case round =>
    obtain ⟨i, j, hij, hjn, rfl, rfl, hB⟩ := hrel
    by_cases hlt : i < j
    · obtain ⟨m, hm⟩ : ∃ m : Nat, m = (i + j) / 2 := ⟨_, rfl⟩
      have hmi : i ≤ m := by omega
      have hmj : m < j := by omega
      have hmn : m < n := by omega
      have hmm : Hid (((i : Int) + (j : Int)) / 2 = (m : Int)) := by show _ = _; omega
      have HM := hid hm
      clear hm
      have hr := H.out.keep (w' := wr) fun k _ hk => hB.out.block k hk
      obtain ⟨r, rfl, _, _, a, b, d, e, e0, e1, e2, e3⟩ := hr.four hmn
      have hwr := hB.out.size
      clear hr
      go_upto_region 5 with (fail)
      rw [hmm.out]
      go_wp2_with fail
      refine (ucmp_any a b d e x wr).mono ?_
      rintro q w1 ⟨⟨v, rfl⟩, h1⟩
      have H1 := hid (hB.out.trans (h1.mono hwr))
      clear h1
      by_cases hv : v < 0
      · go_wp2_with fail
        go_roundw
        case rel => exact ⟨m + 1, j, by omega, by omega, by go_num, rfl, H1⟩
        case measure => simp [intOf]; omega
      · go_wp2_with fail
        go_roundw
        case rel => exact ⟨i, m, by omega, by omega, rfl, rfl, H1⟩
        case measure => simp [intOf]; omega
    · obtain rfl : i = j := by omega
      have hwr := hB.out.size
      by_cases hin : i < n
      · have hr := H.out.keep (w' := wr) fun k _ hk => hB.out.block k hk
        obtain ⟨r, rfl, _, _, a, b, d, e, e0, e1, e2, e3⟩ := hr.four hin
        clear hr
        go_wp2_with fail
        refine (ucmp_any a b d e x wr).mono ?_
        rintro q w1 ⟨⟨v, rfl⟩, h1⟩
        have H1 := hid (hB.out.trans (h1.mono hwr))
        clear h1
        go_wp2_with fail
        go_ret2
        exact ⟨⟨i, _, hjn, fun _ => hin, rfl⟩, H1.out⟩
      · have d0 : decide (i < n) = false := by simp; omega
        go_wp2_with fail
        go_ret2
        exact ⟨⟨i, false, hjn, (fun h => by cases h), rfl⟩, hB.out⟩
theorem ufind_any (h : Usg S w g N) (hN : N ≤ 1000000) (x : Int) :
    Calls Tryz.prog 226 #[.pointer (some ⟨g, 0, none⟩), .int .i64 x] w fun e w' => ∃ A n c, Hid (Blk w g 164 #[.slice A n c] ∧ S g ∧ n ≤ N ∧ IRow S w A n c) ∧ RFind n e ∧ Below w.heap.size w w' := by
  obtain ⟨A, n, c, h1, h2, h3, h4⟩ := h
  have e0 : w.cell? ⟨g, 0, none⟩ = some (.slice A n c) := (h1.cell 0).trans rfl
  have hc := hid (ubin_any h4 (by omega) x)
  have H := hid (And.intro h1 (And.intro h2 (And.intro h3 h4)))
  clear h1 h2 h3 h4
  go_enter Tryz.func226, Tryz.ntmps226
  go_wp2_with fail
  refine hc.out.mono ?_
  rintro e w' ⟨⟨i, t, q1, q2, rfl⟩, h1⟩
  have H1 := hid h1
  have Q2 := hid q2
  clear h1 q2
  go_wp2_with fail
  go_ret2
  exact ⟨A, n, c, H, ⟨i, t, q1, Q2.out, rfl⟩, H1.out⟩
end
end Go.Proofs.YtopbojifllnckaaGreatDoor
namespace Go.Proofs.YtopbojifllnckaaGreatDoor
open Go.RowKit Go.Extern
attribute [local irreducible] wpQuiet
/-- A fault of use. -/
def flt (k : Int) : Value := .iface 408 (.agg #[.int .i64 k])
theorem zTypeOf (w : World) : (Extern.ReflectliteType.typeOf #[flt 0]).run Tryz.prog w = .ok (.iface 470 (.agg #[.pointer (some ⟨3, 408, none⟩)])) w := by kernel_rfl
theorem zComparable (w : World) : ((Extern.ReflectliteType.method fun t => do Extern.Rtype.noPackHeld "Comparable" t; (fun a => Value.bool a.comparable) <$> typeInfo t) #[.agg #[.pointer (some ⟨3, 408, none⟩)]]).run Tryz.prog w = .ok (.bool true) w := by kernel_rfl
theorem zMethodComparable (v : Value) (w : World) : (Go.method 628 470 v "Comparable").run Tryz.prog w = .ok (412, v) w := by kernel_rfl
theorem zMethodIs (v : Value) (w : World) : (Go.method 628 408 v "Is").run Tryz.prog w = .ok (407, v) w := by kernel_rfl
theorem zHasIs (v : Value) (xT : TypeId) (w : World) : (Instr.typeAssert (.iface 408 v) xT 472 true).run Tryz.prog w = .ok (.tuple #[.iface 408 v, .bool true]) w := run_typeAssert_hasB Tryz.underlying472 (by kernel_rfl) v xT w
theorem zFault (v : Value) (xT : TypeId) (w : World) : (Instr.typeAssert (.iface 408 v) xT 408 true).run Tryz.prog w = .ok (.tuple #[v, .bool true]) w := by kernel_rfl
/-- fault.Is of a fault. -/
theorem fIs_any (a b : Int) (w : World) : Calls Tryz.prog 407 #[.agg #[.int .i64 a], flt b] w fun e w' => e = .returned (.bool true) ∧ Below w.heap.size w w' := by
  have h1 := zFault (.agg #[.int .i64 b])
  unfold flt
  go_enter Tryz.func407, Tryz.ntmps407
  go_wp2_with fail
  go_ret
  exact ⟨rfl, ((Below.refl _ _).alloc (Nat.le_refl _) _).alloc (by simp) _⟩
/-- The errors' numbers. -/
def FNum (k : Int) : Prop := k = 1 ∨ k = 2 ∨ k = 6 ∨ k = 7
theorem zEql {k : Int} (h : FNum k) (w : World) : (binOp .eql 333 (flt k) (flt 0)).run Tryz.prog w = .ok (.bool false) w := by
  rcases h with rfl | rfl | rfl | rfl <;> kernel_rfl
set_option maxRecDepth 100000 in
set_option maxHeartbeats 1600000 in
theorem eis_any {k : Int} (h : FNum k) (w : World) : Calls Tryz.prog 326 #[flt k, flt 0, .bool true] w fun e w' => e = .returned (.bool true) ∧ Below w.heap.size w w' := by
  have he := zEql h
  have m1 := zMethodIs
  have a1 := zHasIs
  clear h
  have hc := fun W => hid (fIs_any k 0 W)
  unfold flt at *
  go_enter Tryz.func326, Tryz.ntmps326
  go_wp2_with fail
  refine wp_loop_rounds 1 ?_
  rw [rounds_succ]
  go_wp2_with fail
  refine (hc _).out.mono ?_
  rintro e w' ⟨rfl, h1⟩
  have H1 := hid h1
  clear h1
  go_wp2_with fail
  go_ret
  exact ⟨rfl, H1.out⟩
set_option maxRecDepth 100000 in
set_option maxHeartbeats 1600000 in
theorem is_any {k : Int} (h : FNum k) (w : World) : Calls Tryz.prog 290 #[flt k, flt 0] w fun e w' => e = .returned (.bool true) ∧ Below w.heap.size w w' := by
  have h325 := @run_callFunc_extern Tryz.prog 325 _ Extern.ReflectliteType.typeOf Tryz.func325 (by kernel_rfl) (by kernel_rfl) (by kernel_rfl) (by kernel_rfl)
  have h412 := @run_callFunc_extern Tryz.prog 412 _ (Extern.ReflectliteType.method fun t => do Extern.Rtype.noPackHeld "Comparable" t; pure (.bool (← typeInfo t).comparable)) Tryz.func412 (by kernel_rfl) (by kernel_rfl) (by kernel_rfl) (by kernel_rfl)
  have tT := zTypeOf
  have cT := zComparable
  have mR := zMethodComparable
  have hc := hid (eis_any h w)
  clear h
  unfold flt at *
  go_enter Tryz.func290, Tryz.ntmps290
  go_wp2_with fail
  refine hc.out.mono ?_
  rintro e w' ⟨rfl, h1⟩
  have H1 := hid h1
  clear h1
  go_wp2_with fail
  go_ret
  exact ⟨rfl, H1.out⟩
theorem errno_any {k : Int} (h : FNum k) (w : World) : Calls Tryz.prog 224 #[flt k] w fun e w' => RInt e ∧ Below w.heap.size w w' := by
  have hc := hid (is_any h w)
  have h1 := zFault (.agg #[.int .i64 k])
  clear h
  unfold flt at *
  go_enter Tryz.func224, Tryz.ntmps224
  go_wp2_with fail
  refine hc.out.mono ?_
  rintro e w' ⟨rfl, h1⟩
  have H1 := hid h1
  have hs := h1.size
  clear h1
  go_wp2_with fail
  go_ret
  exact ⟨⟨_, rfl⟩, H1.out.alloc hs _⟩
theorem errno_nil (w : World) : Calls Tryz.prog 224 #[.nilIface] w fun e w' => RInt e ∧ w = w' := by
  have h1 : ∀ w, Calls Tryz.prog 290 #[.nilIface, flt 0] w fun e w' => e = .returned (.bool false) ∧ w = w' := fun w => by
    have he := fun W => run_eql_iface_nil_left (P := Tryz.prog) W 408 (.agg #[.int .i64 0]) Tryz.underlying333
    unfold flt
    go_enter Tryz.func290, Tryz.ntmps290
    go_wp2_with fail
    go_ret
    exact ⟨rfl, rfl⟩
  have hc := hid (h1 w)
  clear h1
  unfold flt at hc
  go_enter Tryz.func224, Tryz.ntmps224
  go_wp2_with fail
  refine hc.out.mono ?_
  rintro e w' ⟨rfl, rfl⟩
  go_wp2_with fail
  go_ret
  exact ⟨⟨_, rfl⟩, rfl⟩
end Go.Proofs.YtopbojifllnckaaGreatDoor
namespace Go.Proofs.YtopbojifllnckaaGreatDoor
open Go.RowKit
attribute [local irreducible] wpQuiet
/-- An error of use is given back, or none. -/
def RErr (e : Ending) : Prop := e = .returned .nilIface ∨ ∃ k, FNum k ∧ e = .returned (flt k)
/-- How a call of uses ends. -/
def UEnd (S : Nat → Prop) (w : World) (g N : Nat) (w' : World) : Prop := Usg (Grow S w w') w' g N ∧ Only S w w'
section
variable {S : Nat → Prop} {w w' : World} {g N : Nat}
theorem Usg.stay (h : Usg S w g N) (hb : Below w.heap.size w w') : UEnd S w g N w' := ⟨(h.keep fun _ _ hk => hb.block _ hk).mono (fun _ h => .inl h) (Nat.le_refl _), Only.of_below hb fun _ hk _ => hk⟩
theorem IRow.put {A : Option Addr} {n c r i : Nat} (h : IRow S w A n c) (hA : A = some ⟨r, 0, none⟩) (x : Int) : IRow S (w.setCell ⟨r, i, none⟩ (.int .i64 x)) A n c := by
  rcases h with ⟨h, _⟩ | ⟨r', cur, h1, h2, h3, h4, h5, h6, h7⟩
  · rw [h] at hA; cases hA
  · rw [h1] at hA
    cases hA
    exact .inr ⟨_, _, h1, h2, h3.set_ i _, h4, h5, by simpa using h6, h7.set i x⟩
theorem IRow.frozen {A : Option Addr} {n c r : Nat} (h : IRow S w A n c) (hA : A = some ⟨r, 0, none⟩) (i : Nat) : w.frozen? ⟨r, i, none⟩ = false := by
  rcases h with ⟨h, _⟩ | ⟨r', cur, h1, h2, h3, _⟩
  · rw [h] at hA; cases hA
  · rw [h1] at hA
    cases hA
    exact h3.frozen i
set_option maxRecDepth 100000 in
set_option maxHeartbeats 1600000 in
theorem udead_any (h : Usg S w g N) (hN : N ≤ 1000000) (x m : Int) :
    Calls Tryz.prog 230 #[.pointer (some ⟨g, 0, none⟩), .int .i64 x, .int .i64 m] w fun e w' => RErr e ∧ UEnd S w g N w' := by
  have hst := hid (h.stay (Below.refl _ _))
  by_cases hm : m < 0
  · go_enter Tryz.func230, Tryz.ntmps230
    go_wp2_with fail
    go_ret
    exact ⟨.inr ⟨1, .inl rfl, rfl⟩, hst.out⟩
  have hc := hid (ufind_any h hN x)
  have H := hid h
  clear h hst
  go_enter Tryz.func230, Tryz.ntmps230
  go_wp2_with fail
  refine hc.out.mono ?_
  rintro e w1 ⟨A, n, c, hD, ⟨i, t, q1, q2, rfl⟩, hb⟩
  have hst := hid (H.out.stay hb)
  cases t with
  | false =>
    clear hb q2
    go_wp2_with fail
    go_ret
    exact ⟨.inr ⟨7, .inr (.inr (.inr rfl)), rfl⟩, hst.out⟩
  | true =>
    have hin := q2 rfl
    have hb1 : Blk w1 g 164 #[.slice A n c] := hD.out.1.below hb hD.out.1.lt
    have hr1 : IRow S w1 A n c := hD.out.2.2.2.keep fun k _ hk => hb.block k hk
    obtain ⟨r, rfl, hsr, _, a, b, d, e, e0, e1, e2, e3⟩ := hr1.four hin
    have c0 : w1.cell? ⟨g, 0, none⟩ = some (.slice (some ⟨r, 0, none⟩) n c) := (hb1.cell 0).trans rfl
    have f2 := hr1.frozen rfl (i * 4 + 2)
    have hgr : g ≠ r := fun e => by
      subst e
      rcases hr1 with ⟨h, _⟩ | ⟨r', cur, h1, _, h3, _⟩
      · cases h
      · cases h1; exact (hb1.ne_ h3 (by decide)) rfl
    have hrow2 : IRow S (w1.setCell ⟨r, i * 4 + 2, none⟩ (.int .i64 (wrap64 (d - m)))) (some ⟨r, 0, none⟩) n c := hr1.put rfl _
    have hfin : Hid (UEnd S w g N (w1.setCell ⟨r, i * 4 + 2, none⟩ (.int .i64 (wrap64 (d - m))))) := by
      refine ⟨Usg.mono ⟨_, n, c, hb1.far (p := ⟨r, i * 4 + 2, none⟩) hgr _, hD.out.2.1, hD.out.2.2.1, hrow2⟩ (fun _ h => .inl h) (Nat.le_refl _), setS hsr _ _ (Only.of_below hb fun k hk _ => hk)⟩
    clear hb q2 hb1 hr1 hrow2 q1
    by_cases hlive : d < m
    · go_wp2_with fail
      go_ret
      exact ⟨.inr ⟨2, .inr (.inl rfl), rfl⟩, hst.out⟩
    · go_wp2_with fail
      go_ret
      exact ⟨.inl rfl, hfin.out⟩
theorem UEnd.then_ {w2 : World} (h : UEnd S w g N w') (hb : Below w'.heap.size w' w2) : UEnd S w g N w2 :=
  ⟨(h.1.keep fun _ _ hk => hb.block _ hk).mono (fun _ hk => hk.imp id fun x => ⟨x.1, Nat.lt_of_lt_of_le x.2 hb.size⟩) (Nat.le_refl _), h.2.then_below (hb.mono h.2.size)⟩
theorem uDead_any (h : Usg S w g N) (hN : N ≤ 1000000) (x m : Int) :
    Calls Tryz.prog 164 #[.pointer (some ⟨g, 0, none⟩), .int .i64 x, .int .i64 m] w fun e w' => RInt e ∧ UEnd S w g N w' := by
  have hc := hid (udead_any h hN x m)
  clear h
  go_enter Tryz.func164, Tryz.ntmps164
  go_wp2_with fail
  refine hc.out.mono ?_
  rintro e w1 ⟨he, h1⟩
  rcases he with rfl | ⟨k, hk, rfl⟩
  · have H1 := hid h1
    clear h1
    go_wp2_with fail
    refine (errno_nil w1).mono ?_
    rintro e w2 ⟨⟨v, rfl⟩, rfl⟩
    go_wp2_with fail
    go_ret
    exact ⟨⟨v, rfl⟩, H1.out⟩
  · have H1 := hid h1
    have hc2 := hid (errno_any hk w1)
    clear h1
    unfold flt at *
    go_wp2_with fail
    refine hc2.out.mono ?_
    rintro e w2 ⟨⟨v, rfl⟩, h2⟩
    have H2 := hid (H1.out.then_ h2)
    clear h2
    go_wp2_with fail
    go_ret
    exact ⟨⟨v, rfl⟩, H2.out⟩
end
end Go.Proofs.YtopbojifllnckaaGreatDoor
