/- each with Runs' closure; Runs. -/
import Derived.Test.YtafndflddlieiaaDoorEach
import Derived.Test.YtafndflddlieiaaDoorApp
namespace Go.Proofs.YtafndflddlieiaaDoor
open Go.RowKit
attribute [local irreducible] wpQuiet
attribute [local go_sem high] run_mxI run_mnI

theorem info37 : (Tryd.prog.info? 37).map (fun i => (i.zero, i.size, i.bytes)) = some (some (.agg #[.int .i64 0, .int .i64 0]), 2, 16) := by kernel_rfl
/-- Rows as cells: two numbers each. -/
def rcs (l : List (Nat × Nat)) : List Value := l.flatMap fun r => [Value.int .i64 r.1, Value.int .i64 r.2]
theorem rcs_append (l m : List (Nat × Nat)) : rcs (l ++ m) = rcs l ++ rcs m := by simp [rcs]
theorem rcs_length (l : List (Nat × Nat)) : (rcs l).length = l.length * 2 := by
  induction l with
  | nil => rfl
  | cons a l ih => simp only [rcs, List.flatMap_cons, List.length_append, List.length_cons, List.length_nil] at ih ⊢; omega

section
variable {w : World} {q : Nat}
theorem runs1_any {s l : Nat} {v : Value} {L : List (Nat × Nat)} (hq : Hid (Blk w q 53 #[v])) (hown : Hid (w.ownsRow (q + 1) 37 2 v L.length (rcs L))) (hL : L.length ≤ 10000) :
    Calls Tryd.prog 38 #[.agg #[.int .i64 s, .int .i64 l], .pointer (some ⟨q, 0, none⟩)] w fun e w' => e = .returned (.bool true) ∧
      ∃ v', Blk w' q 53 #[v'] ∧ w'.ownsRow (q + 1) 37 2 v' (L ++ [(s, l)]).length (rcs (L ++ [(s, l)])) ∧ Below q w w' := by
  have e1 : w.cell? ⟨q, 0, none⟩ = some v := by rw [hq.out.cell]; rfl
  have l1 := hq.out.lt
  obtain ⟨A, c, hv⟩ := own_form hown.out
  subst hv
  have hs := hid (show (L.length + 1) * 16 ≤ 140737488355328 by omega)
  go_enter Tryd.func38, Tryd.ntmps38
  go_wp2_with (at_builtin; refine wpList_appS _ rfl (.tmp 4) (.tmp 6) 53 37 (.agg #[.int .i64 0, .int .i64 0]) 2 16 rfl Tryd.underlying53 info37 rfl (by decide) (by decide) (q + 1) (.slice A L.length c) L.length (rcs L) rfl ?own (w.heap.size + 2) (some ⟨w.heap.size + 1, 0, none⟩) 1 1 [.int .i64 s, .int .i64 l] rfl rfl ?hold ?one hs.out ?base ?_)
  case own => exact (hown.out.alloc _).alloc _
  case hold =>
    have hbk := Blk.new (w.alloc (.cells #[.int .i64 s, .int .i64 l] 37)) 37 #[.int .i64 s, .int .i64 l]
    have e : (w.alloc (.cells #[.int .i64 s, .int .i64 l] 37)).heap.size = w.heap.size + 1 := by simp
    rw [e] at hbk
    exact Holds.of_blk hbk 0 2 (by omega)
  case one => intro u hu; simp at hu; rcases hu with rfl | rfl <;> rfl
  case base => simp; omega
  intro v' w' hown' hg _
  have hno : ∀ k, (Value.slice A L.length c).ownBlock = some k → q + 1 ≤ k := own_ge hown.out
  have hq' : Blk w' q 53 #[.slice A L.length c] := (hg.block q (by simp; omega) (fun e => by have := hno q e.symm; omega)).trans ((hq.out.alloc _).alloc _)
  have e2 : w'.cell? ⟨q, 0, none⟩ = some (.slice A L.length c) := by rw [hq'.cell]; rfl
  have f2 := hq'.frozen 0
  obtain ⟨A', c', hv'⟩ := own_form hown'
  subst hv'
  have HO := hid hown'
  have HG := hid hg
  have HQ := hid hq'
  clear hown' hg hq' hno
  go_wp2_with fail
  go_ret
  have hown3 := HO.out
  rw [show rcs L ++ [Value.int .i64 s, .int .i64 l] = rcs (L ++ [(s, l)]) by rw [rcs_append]; rfl] at hown3
  rw [show (L ++ [(s, l)]).length = L.length + 1 by simp]
  refine ⟨rfl, _, HQ.out.set_ 0 _, ownsRow_setCell_below hown3 (a := ⟨q, 0, none⟩) (by show q < q + 1; omega) _, ?_⟩
  exact (((((Below.refl q w).alloc (by omega) _).alloc (by simp; omega) _).grown HG.out (by simp; omega) (fun k hk => by have := own_ge hown.out k hk; omega)).setCell (p := ⟨q, 0, none⟩) (Nat.le_refl _) _)
variable {b n : Nat} {W : Nat → BitVec 64}
theorem rowsF_len {p q : Nat → Bool} (hq : ∀ y, q y = !p y) (n : Nat) : ∀ (k a : Nat), a ≤ n → n - a ≤ k → (rowsF p q n a).length ≤ k := by
  intro k
  induction k with
  | zero =>
    intro a ha hk
    rw [rowsF_step hq ha, if_neg (by have := (nextF_spec p ha).1; omega)]
    exact Nat.le_refl _
  | succ k ih =>
    intro a ha hk
    rw [rowsF_step hq ha]
    split
    · rename_i hs
      obtain ⟨g1, g2, g3⟩ := row_gt hq ha hs
      have := ih (nextF q n (nextF p n a)) g3 (by omega)
      simp only [List.length_cons]; omega
    · simp
set_option maxHeartbeats 1000000 in
theorem each_runs (h : Hid (MapIs w b n W)) (hT : Hid (TabIs w)) (hn : n ≤ 4096) (on : Bool) (hq : Hid (Blk w q 53 #[.slice none 0 0])) (hqb : b < q) (hq0 : 0 < q) :
    Calls Tryd.prog 35 #[.pointer (some ⟨b, 0, none⟩), .bool on, .func (.func 38) #[] #[.pointer (some ⟨q, 0, none⟩)]] w fun e w' =>
      e = .returned (.tuple #[]) ∧ ∃ v', Blk w' q 53 #[v'] ∧ w'.ownsRow (q + 1) 37 2 v' (rowsF (isP W on) (isP W (!on)) n 0).length (rcs (rowsF (isP W on) (isP W (!on)) n 0)) ∧ Below q w w' := by
  have hN := hid (next_any h hT hn (Nat.zero_le n) on)
  obtain ⟨R, hR⟩ : ∃ R, R = rowsF (isP W on) (isP W (!on)) n 0 := ⟨_, rfl⟩
  have hRl : R.length ≤ 10000 := by rw [hR]; have := rowsF_len (isP_not W on) n n 0 (by omega) (by omega); omega
  rw [← hR]
  have HR := hid hR
  clear hR
  go_enter Tryd.func35, Tryd.ntmps35
  go_wp2_with fail
  refine hN.out.mono ?_
  rintro e w1 ⟨rfl, j1, rfl⟩
  go_wp2_with fail
  go_loopw [6] (fun v wr => ∃ (c : Nat) (L : List (Nat × Nat)) (u : Value), c ≤ n ∧ v = .int .i64 (nextF (isP W on) n c : Nat) ∧ Hid (R = L ++ rowsF (isP W on) (isP W (!on)) n c ∧ Below q w wr ∧ Blk wr q 53 #[u] ∧ wr.ownsRow (q + 1) 37 2 u L.length (rcs L))) (fun v _ => n + 1 - (intOf v).toNat)
  case atStart => exact ⟨0, [], _, Nat.zero_le _, rfl, HR.out, below_drewN (Below.refl _ _) j1, hq.out.drewN j1, World.ownsRow_nil _ _ _ _⟩
  case round =>
    obtain ⟨c, L, u, hc, rfl, hI⟩ := hrel
    have hM := hid (Blk.below h.out hI.out.2.1 hqb)
    have hTT := hid (hT.out.below hI.out.2.1 hq0)
    have hQ := hid hI.out.2.2.1
    have e0 := MapIs.e0 hM.out
    have hst := hid (rowsF_step (isP_not W on) hc)
    obtain ⟨s, hs⟩ : ∃ s, s = nextF (isP W on) n c := ⟨_, rfl⟩
    have hsn := (nextF_spec (isP W on) hc).2.1
    have hgt := hid (fun h => row_gt (isP_not W on) hc h)
    rw [← hs] at hst hsn hgt ⊢
    clear hs
    by_cases hlt : s < n
    · have hg := hgt.out hlt
      have hN2 := hid (next_any hM hTT hn (Nat.le_of_lt hlt) (!on))
      obtain ⟨e, he⟩ : ∃ e, e = nextF (isP W (!on)) n s := ⟨_, rfl⟩
      have hst2 := hst.out
      rw [if_pos hlt] at hst2
      rw [← he] at hg hN2 hst2
      have HST := hid hst2
      have hcast : (((e - s : Nat)) : Int) = (e : Int) - (s : Int) := by omega
      have hLl : L.length ≤ 10000 := by have := congrArg List.length hI.out.1; simp at this; omega
      have hC := hid (fun w' (hq : Hid (Blk w' q 53 #[u])) (ho : Hid (w'.ownsRow (q + 1) 37 2 u L.length (rcs L))) => runs1_any (s := s) (l := e - s) hq ho hLl)
      rw [hcast] at hC
      clear he hst2 hgt hcast
      go_wp2_with fail
      refine hN2.out.mono ?_
      rintro r w2 ⟨rfl, j2, rfl⟩
      go_wp2_with fail
      refine (hC.out _ (hid (hQ.out.drewN j2)) (hid (own_keep hI.out.2.2.2 fun _ _ _ => rfl))).mono ?_
      rintro r w3 ⟨rfl, u3, hq3, ho3, hb3⟩
      have HQ3 := hid hq3
      have HO3 := hid ho3
      have HB3 := hid ((below_drewN hI.out.2.1 j2).trans hb3)
      have hM3 := hid (Blk.below h.out HB3.out hqb)
      have hT3 := hid (hT.out.below HB3.out hq0)
      have hN3 := hid (next_any hM3 hT3 hn hg.2.2 on)
      clear hq3 ho3 hb3
      go_wp2_with fail
      refine hN3.out.mono ?_
      rintro r w4 ⟨rfl, j4, rfl⟩
      have hgn := (nextF_spec (isP W on) hg.2.2).1
      go_wp2_with fail
      go_roundw
      case rel =>
        refine ⟨e, L ++ [(s, e - s)], u3, hg.2.2, rfl, hid ⟨?_, below_drewN HB3.out j4, HQ3.out.drewN j4, own_keep HO3.out fun _ _ _ => rfl⟩⟩
        rw [hI.out.1, HST.out]
        simp
      case measure => simp [intOf]; omega
    · obtain rfl : s = n := by omega
      go_wp2_with fail
      go_end0
      have hst2 := hst.out
      rw [if_neg hlt] at hst2
      have hRL : R = L := by rw [hI.out.1, hst2, List.append_nil]
      rw [hRL]
      exact ⟨rfl, u, hI.out.2.2.1, hI.out.2.2.2, hI.out.2.1⟩
set_option maxHeartbeats 400000 in
theorem runs_any (h : Hid (MapIs w b n W)) (hT : Hid (TabIs w)) (hn : n ≤ 4096) (on : Bool) :
    Calls Tryd.prog 26 #[.pointer (some ⟨b, 0, none⟩), .bool on] w fun e w' => ∃ A c, e = .returned (.slice A (rowsF (isP W on) (isP W (!on)) n 0).length c) ∧
      Holds w' w'.heap.size A (rcs (rowsF (isP W on) (isP W (!on)) n 0)) ∧ (∀ ad, A = some ad → w.heap.size ≤ ad.block) ∧ Below w.heap.size w w' := by
  have hlt := Blk.lt h.out
  have hE := hid (each_runs (q := w.heap.size) (hid (Blk.alloc h.out (.cells #[.slice none 0 0] 53))) (hid (hT.out.keep (Below.heap_alloc w (.cells #[.slice none 0 0] 53) 0 hT.out.lt))) hn on (hid (Blk.new w 53 #[.slice none 0 0])) hlt (by omega))
  go_enter Tryd.func26, Tryd.ntmps26
  go_wp2_with fail
  refine hE.out.mono ?_
  rintro e w2 ⟨rfl, v', hb2, ho2, hbl⟩
  obtain ⟨A, c, hv⟩ := own_form ho2
  subst hv
  have e1 : w2.cell? ⟨w.heap.size, 0, none⟩ = some (.slice A (rowsF (isP W on) (isP W (!on)) n 0).length c) := by rw [hb2.cell]; rfl
  have HO := hid ho2
  have HB := hid hbl
  clear hb2 ho2 hbl
  go_wp2_with fail
  go_ret
  refine ⟨_, _, rfl, (own_holdsS HO.out).1, fun ad had => by have := (own_holdsS HO.out).2.2 ad had; omega, ((Below.refl _ _).alloc (Nat.le_refl _) _).trans HB.out⟩
theorem runs_nil (on : Bool) (w : World) : Calls Tryd.prog 26 #[.pointer none, .bool on] w fun e w' => e = .returned (.slice none 0 0) ∧ Below w.heap.size w w' := by
  go_enter Tryd.func26, Tryd.ntmps26
  go_wp2_with fail
  refine (each_nil _ _ _).mono ?_
  rintro e w2 ⟨rfl, rfl⟩
  go_wp2_with fail
  go_ret
  exact ⟨rfl, (Below.refl _ _).alloc (Nat.le_refl _) _⟩
end
end Go.Proofs.YtafndflddlieiaaDoor
