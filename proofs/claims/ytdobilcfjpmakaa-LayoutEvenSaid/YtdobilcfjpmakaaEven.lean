/- LayoutEven: parities are spread; the walk of this law. -/
import Derived.Test.YtdobilcfjpmakaaAwake
namespace Go.Proofs.Ytdobilcfjpmakaa
open Go.RowKit
attribute [local irreducible] wpQuiet
attribute [local go_sem high] run_mxI run_mnI

theorem loadsN_val (n k j : Nat) (h2 : 2 ≤ n) (h8 : n ≤ 8) (hj : j < n) : (loadsN n k).getD j 0 = ((k / n + (if (j + 1) % n < k % n then 1 else 0) : Nat) : Int) := by
  induction k generalizing j with
  | zero =>
    simp only [loadsN, List.getD, List.getElem?_replicate, if_pos hj]
    simp
  | succ k ih =>
    rw [loadsN, getD_set _ _ _ _ (by rw [loadsN_length]; exact Nat.mod_lt _ (by omega))]
    by_cases e : (n - 1 + k) % n = j
    · rw [if_pos e, e, ih j hj]
      clear ih
      have hn : n = 2 ∨ n = 3 ∨ n = 4 ∨ n = 5 ∨ n = 6 ∨ n = 7 ∨ n = 8 := by omega
      rcases hn with rfl | rfl | rfl | rfl | rfl | rfl | rfl <;> split <;> split <;> omega
    · rw [if_neg e, ih j hj]
      clear ih
      have hn : n = 2 ∨ n = 3 ∨ n = 4 ∨ n = 5 ∨ n = 6 ∨ n = 7 ∨ n = 8 := by omega
      rcases hn with rfl | rfl | rfl | rfl | rfl | rfl | rfl <;> split <;> split <;> omega
theorem loadsN_even (n k i j : Nat) (h2 : 2 ≤ n) (h8 : n ≤ 8) (hi : i < n) (hj : j < n) : (loadsN n k).getD i 0 - (loadsN n k).getD j 0 ≤ 1 := by
  rw [loadsN_val n k i h2 h8 hi, loadsN_val n k j h2 h8 hj]
  generalize k / n = q
  split <;> split <;> omega
theorem sum_set (l : List Int) (t : Nat) (v : Int) (h : t < l.length) : (l.set t v).sum = l.sum - l.getD t 0 + v := by
  induction l generalizing t with
  | nil => exact absurd h (by simp)
  | cons x l ih =>
    cases t with
    | zero => simp; omega
    | succ t =>
      have := ih t (by simpa using h)
      simp only [List.set_cons_succ, List.sum_cons, List.getD_cons_succ]
      omega
theorem loadsN_sum (n k : Nat) (hn : 0 < n) : (loadsN n k).sum = k := by
  induction k with
  | zero => simp [loadsN]
  | succ k ih =>
    rw [loadsN, sum_set _ _ _ (by rw [loadsN_length]; exact Nat.mod_lt _ hn), ih]
    omega
def psum (l : List Int) (i : Nat) : Int := (l.take i).sum
theorem psum_next (l : List Int) (i : Nat) (h : i < l.length) : psum l (i + 1) = psum l i + l.getD i 0 := by
  unfold psum
  rw [List.take_succ_eq_append_getElem h, List.sum_append]
  simp [List.getD, h]
theorem psum_bound (n k i : Nat) (hn : 0 < n) (hi : i ≤ n) (hk : k ≤ 4096) : 0 ≤ psum (loadsN n k) i ∧ psum (loadsN n k) i ≤ i * 4096 := by
  induction i with
  | zero => simp [psum]
  | succ i ih =>
    rw [psum_next _ _ (by rw [loadsN_length]; omega)]
    have := ih (by omega)
    have := loadsN_bound n k i hn
    omega

set_option maxHeartbeats 2000000 in
theorem even_walk {A : Option Addr} {n c : Nat} (s : Int) (w : World) (hh : ∃ l : List Int, l.length = n ∧ n ≤ c ∧ c ≤ maxLen ∧ IntsAt w w.heap.size A l) :
    Calls Try.prog 6 #[.slice A n c, .int .i64 s] w fun e w' => e = .returned (.bool true) ∧ Below w.heap.size w w' := by
  obtain ⟨xs, hn, hc, hl, h0⟩ := hh
  have H0 := hid h0
  have hcall := refgroup_any (w := w) H0 hn hc hl
  clear h0
  by_cases hg : grpB xs = true
  · obtain ⟨hn2, hn8⟩ := grp_bound hg
    rw [hn] at hn2 hn8
    obtain ⟨K, hK, hK4⟩ := mn_nat s
    have q1 := fun W A c B h => loads_any (A := A) (n := n) (c := c) (B := B) (xs := xs) (s := s) (w := W) h hn
    rw [show loadsR xs s = loadsN n K by unfold loadsR; rw [if_pos hg, hK, hn]; rfl, loadsN_length] at q1
    rw [hg] at hcall
    have HC := hid hcall
    have Q1 := hid q1
    have HSUM := hid (loadsN_sum n K (by omega))
    have HEV := hid (fun i j hi hj => loadsN_even n K i j hn2 hn8 hi hj)
    have HBD := hid (fun i hi => psum_bound n K i (by omega) hi hK4)
    have HVB := hid (fun j => loadsN_bound n K j (by omega))
    have HLEN := hid (loadsN_length n K)
    obtain ⟨L, hL⟩ : ∃ L, L = loadsN n K := ⟨_, rfl⟩
    rw [← hL] at Q1 HSUM HEV HBD HVB HLEN
    clear hL hg hcall q1 hn
    go_enter Try.func6, Try.ntmps6
    go_wp2_with fail
    refine HC.out.mono ?_
    rintro e w1 ⟨rfl, m1, rfl⟩
    have B1 := hid (below_drewN (Below.refl w.heap.size w) m1)
    go_wp2_with fail
    refine (Q1.out _ _ _ _ (hid (H0.out.drewN m1)) hc hl).mono ?_
    rintro e w2 ⟨A2, c2, rfl, hr, hb⟩
    have R2 := hid hr
    have B2 := hid (B1.out.trans (hb.mono B1.out.size))
    clear hr hb B1
    go_wp2_with fail
    go_loopw [6, 7] (fun v i wr => ∃ k m : Nat, k ≤ n ∧ i = .int .i64 k ∧ v = .int .i64 (psum L k) ∧ wr = w2.drewN m) (fun _ i _ => n - (intOf i).toNat)
    case atStart => exact ⟨0, 0, by omega, rfl, by simp [psum], rfl⟩
    case round =>
      obtain ⟨k, m, hk, rfl, rfl, rfl⟩ := hrel
      by_cases hkn : k < n
      · obtain ⟨ad, rfl, _, hcc⟩ := R2.out (by have := HLEN.out; omega)
        have hck := hcc k (by have := HLEN.out; omega)
        have HCC := hid hcc
        have hbd := HBD.out k (by omega)
        have hvk := HVB.out k
        have hnx := psum_next L k (by have := HLEN.out; omega)
        have HX := hid (fun j hj => HEV.out k j hkn hj)
        obtain ⟨x, hx⟩ : ∃ x, x = L.getD k 0 := ⟨_, rfl⟩
        rw [← hx] at hck hnx hvk HX
        obtain ⟨p, hp⟩ : ∃ p, p = psum L k := ⟨_, rfl⟩
        rw [← hp] at hnx hbd ⊢
        have hw : IntKind.i64.wrap (p + x) = p + x := by rw [IntKind.wrap_i64]; omega
        have HP := hid hp
        have HNX := hid hnx
        clear hcc hnx hp hx
        go_wp2
        go_loopw [8] (fun i wr => ∃ j m' : Nat, j ≤ n ∧ i = .int .i64 j ∧ wr = w2.drewN m') (fun i _ => n - (intOf i).toNat)
        case atStart => exact ⟨0, m, by omega, rfl, rfl⟩
        case round =>
          obtain ⟨j, m', hj, rfl, rfl⟩ := hrel
          by_cases hjn : j < n
          · have hcj := HCC.out j (by have := HLEN.out; omega)
            have hle := HX.out j hjn
            have hvj := HVB.out j
            obtain ⟨y, hy⟩ : ∃ y, y = L.getD j 0 := ⟨_, rfl⟩
            rw [← hy] at hcj hle hvj
            have hw2 : IntKind.i64.wrap (x - y) = x - y := by rw [IntKind.wrap_i64]; omega
            clear hy
            go_wp2
            go_quiet (fail)
            go_wp2
            go_roundw
            case rel => exact ⟨j + 1, _, by omega, by go_num, rfl⟩
            case measure => simp [intOf]; omega
          · obtain rfl : j = n := by omega
            go_wp2
            go_roundw
            case rel => exact ⟨k + 1, m', by omega, by go_num, by rw [HNX.out], rfl⟩
            case measure => simp [intOf]; omega
      · obtain rfl : k = n := by omega
        have hp : psum L k = (K : Int) := by
          unfold psum
          rw [List.take_of_length_le (Nat.le_of_eq HLEN.out), HSUM.out]
        rw [hp]
        clear hp
        go_wp2_with fail
        refine (awake_any _).mono ?_
        rintro e w8 ⟨rfl, hb⟩
        have B8 := hid ((below_drewN B2.out m).trans (hb.mono (below_drewN B2.out m).size))
        clear hb
        go_wp2_with fail
        go_ret
        exact ⟨rfl, B8.out⟩
  · rw [show grpB xs = false by simpa using hg] at hcall
    have HC := hid hcall
    clear hcall hg
    go_enter Try.func6, Try.ntmps6
    go_wp2_with fail
    refine HC.out.mono ?_
    rintro e w1 ⟨rfl, m1, rfl⟩
    have B1 := hid (below_drewN (Below.refl w.heap.size w) m1)
    go_wp2_with fail
    refine (awake_any _).mono ?_
    rintro e w8 ⟨rfl, hb⟩
    have B8 := hid (B1.out.trans (hb.mono B1.out.size))
    clear hb
    go_wp2_with fail
    go_ret
    exact ⟨rfl, B8.out⟩

end Go.Proofs.Ytdobilcfjpmakaa
