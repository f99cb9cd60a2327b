/- The reference's Runs. -/
import Derived.Test.YtafndflddlieiaaDoorRefA
import Derived.Test.YtafndflddlieiaaDoorScan
namespace Go.Proofs.YtafndflddlieiaaDoor
open Go.RowKit
attribute [local irreducible] wpQuiet
attribute [local go_sem high] run_mxI run_mnI

theorem own_set {w : World} {base e size n c g j : Nat} {xs : List Value} (h : w.ownsRow base e size (.slice (some ⟨g, 0, none⟩) n c) n xs) (hj : j < n * size) (u : Value) :
    (w.cell? ⟨g, j, none⟩ = xs[j]? ∧ w.frozen? ⟨g, j, none⟩ = false) ∧ (w.setCell ⟨g, j, none⟩ u).ownsRow base e size (.slice (some ⟨g, 0, none⟩) n c) n (xs.set j u) := by
  obtain ⟨hl, h⟩ := h
  rcases h with ⟨hv, _⟩ | ⟨g', cap, cur, hv, hb, hc, hn, hcap, hs, ht⟩
  · cases hv
  · injection hv with h1 h2 h3
    obtain rfl : g = g' := by injection h1 with h1; injection h1
    subst h3
    refine ⟨⟨?_, ?_⟩, by simpa using hl, .inr ⟨g, c, cur.setIfInBounds j u, rfl, hb, ?_, hn, hcap, by simpa using hs, ?_⟩⟩
    · rw [cell_of_row w g j cur e (0, 0) hc, ← ht, List.getElem?_take, if_pos hj]
      simp
    · simp [World.frozen?, hc]
    · simp [World.setCell, Array.getElem?_modify, hc]
    · rw [← ht, Array.toList_setIfInBounds, List.take_set]

section
variable {w : World} {B n c : Nat} {A : Option Addr} {f : Nat → Bool}
theorem rcs_at (M : List (Nat × Nat)) (a l : Nat) : (rcs (M ++ [(a, l)]))[M.length * 2]? = some (.int .i64 a) ∧ (rcs (M ++ [(a, l)]))[M.length * 2 + 1]? = some (.int .i64 l) := by
  rw [rcs_append]
  constructor
  · rw [List.getElem?_append_right (by rw [rcs_length]; omega), rcs_length, show M.length * 2 - M.length * 2 = 0 by omega]; rfl
  · rw [List.getElem?_append_right (by rw [rcs_length]; omega), rcs_length, show M.length * 2 + 1 - M.length * 2 = 1 by omega]; rfl
set_option maxHeartbeats 1000000 in
theorem rruns_any (h : Hid (Holds w B A (bcs f n))) (hB : B ≤ w.heap.size) (hn : n ≤ 4096) (on : Bool) {p q : Nat → Bool} (hp : ∀ y, p y = (f y == on)) (hq : ∀ y, q y = !p y) {R : List (Nat × Nat)} (hR : R = rowsF p q n 0) :
    Calls Tryd.prog 27 #[.slice A n c, .bool on] w fun e w' => ∃ A' c', e = .returned (.slice A' R.length c') ∧ Holds w' w'.heap.size A' (rcs R) ∧ Below w.heap.size w w' := by
  have HR := hid hR
  have HP := hid hp
  have HQ := hid hq
  clear hR hp hq
  go_enter Tryd.func27, Tryd.ntmps27
  go_wp2_with fail
  go_loopw [5, 6] (fun v5 v6 wr => ∃ (i : Nat) (L : List (Nat × Nat)), i ≤ n ∧ v6 = .int .i64 i ∧ Hid (wr.ownsRow w.heap.size 37 2 v5 L.length (rcs L) ∧ Below w.heap.size w wr ∧ St p q n R i L)) (fun _ v6 _ => n - (intOf v6).toNat)
  case atStart => exact ⟨0, [], Nat.zero_le _, rfl, World.ownsRow_nil _ _ _ _, Below.refl _ _, by rw [HR.out]; exact St.start⟩
  case round =>
    obtain ⟨i, L, hin, rfl, hI⟩ := hrel
    by_cases hlt : i < n
    · obtain ⟨ad, hA, e1⟩ := bool_at ((h.out.below (hI.out.2.1.mono hB))) hlt
      subst hA
      by_cases hf : f i = on
      · have hpi := hid (show p i = true by rw [HP.out, hf]; cases on <;> rfl)
        rw [hf] at e1
        have HF := hid hf
        clear hf
        obtain ⟨A5, c5, hv⟩ := own_form hI.out.1
        subst hv
        rcases last_or L with rfl | ⟨M, a, l, rfl⟩
        · have hS := hid (hI.out.2.2.new HQ.out hlt hpi.out (fun M r h => by simp at h))
          go_wp2_with fail
          go_quiet (fail)
          obtain ⟨wc, hwc⟩ : ∃ wc, wc = wr.drewN nq := ⟨_, rfl⟩
          have HOc := hid (show wc.ownsRow w.heap.size 37 2 (.slice A5 0 c5) 0 (rcs []) by rw [hwc]; exact own_keep hI.out.1 fun _ _ _ => rfl)
          have HBc := hid (show Below w.heap.size w wc by rw [hwc]; exact below_drewN hI.out.2.1 nq)
          have hs := hid (show (0 + 1) * 16 ≤ 140737488355328 by have := hI.out.2.2.1; first | omega | (simp at this ⊢; omega) | simp)
          rw [← hwc]
          clear hwc
          go_wp2_with (at_builtin; refine wpList_appS _ rfl (.tmp 48) (.tmp 51) 53 37 (.agg #[.int .i64 0, .int .i64 0]) 2 16 rfl Tryd.underlying53 info37 rfl (by decide) (by decide) w.heap.size (.slice A5 0 c5) 0 (rcs []) rfl ?own (wc.heap.size + 1) (some ⟨wc.heap.size, 0, none⟩) 1 1 [.int .i64 i, .int .i64 1] rfl rfl ?hold ?one hs.out ?base ?_)
          case own => exact HOc.out.alloc _
          case hold => exact Holds.of_blk (Blk.new wc 37 #[.int .i64 i, .int .i64 1]) 0 2 (by omega)
          case one => intro u hu; simp at hu; rcases hu with rfl | rfl <;> rfl
          case base => have := HBc.out.size; simp; omega
          intro v' w' hown' hg _
          have HO' := hid (show w'.ownsRow w.heap.size 37 2 v' (([] : List (Nat × Nat)) ++ [(i, 1)]).length (rcs (([] : List (Nat × Nat)) ++ [(i, 1)])) by
            exact hown')
          have HB' := hid (show Below w.heap.size w w' from (HBc.out.alloc HBc.out.size _).grown hg (by have := HBc.out.size; simp; omega) (fun k hk => own_ge HOc.out k hk))
          clear hown' hg
          go_wp2_with fail
          go_roundw
          case rel => exact ⟨i + 1, _, hlt, by go_num, hid ⟨HO'.out, HB'.out, hS.out⟩⟩
          case measure => simp [intOf]; omega
        · have hle := hI.out.2.2.le rfl
          simp only at hle
          have hLi := hI.out.2.2.1
          have hown := hI.out.1
          have hlen : (M ++ [(a, l)]).length = M.length + 1 := by simp
          obtain ⟨K, hK⟩ : ∃ K, K = M.length := ⟨_, rfl⟩
          rw [hlen, ← hK] at hown hLi ⊢
          obtain ⟨g, rfl⟩ : ∃ g, A5 = some ⟨g, 0, none⟩ := by
            obtain ⟨g, c6, hv, -⟩ := hown.form (by omega)
            injection hv with h1
            exact ⟨g, h1⟩
          obtain ⟨ga, gl⟩ := rcs_at M a l
          rw [← hK] at ga gl
          have k0 := (own_set (j := K * 2) hown (by omega) (.bool true)).1.1.trans ga
          have k1 := (own_set (j := K * 2 + 1) hown (by omega) (.bool true)).1.1.trans gl
          have f1 := (own_set (j := K * 2 + 1) hown (by omega) (.bool true)).1.2
          have HK := hid hK
          have HO := hid hown
          clear hown hlen hK
          have hk : (K : Int) + 1 - 1 = K := by omega
          by_cases hal : a + l = i
          · have hal' : (a : Int) + (l : Int) = (i : Int) := by omega
            have hS := hid (hI.out.2.2.more HQ.out hlt hpi.out hal)
            go_wp2_with fail
            go_quiet (fail)
            obtain ⟨wc, hwc⟩ : ∃ wc, wc = wr.drewN nq := ⟨_, rfl⟩
            have HOc := hid (show wc.ownsRow w.heap.size 37 2 (.slice (some ⟨g, 0, none⟩) (K + 1) c5) (K + 1) (rcs (M ++ [(a, l)])) by rw [hwc]; exact own_keep HO.out fun _ _ _ => rfl)
            have HBc := hid (show Below w.heap.size w wc by rw [hwc]; exact below_drewN hI.out.2.1 nq)
            obtain ⟨⟨k1c, f1c⟩, ho2⟩ := own_set (j := K * 2 + 1) HOc.out (by omega) (.int .i64 (l + 1 : Nat))
            have k1c := k1c.trans gl
            have hgw := own_ge HOc.out g rfl
            have HO2 := hid (show (wc.setCell ⟨g, K * 2 + 1, none⟩ (.int .i64 (l + 1 : Nat))).ownsRow w.heap.size 37 2 (.slice (some ⟨g, 0, none⟩) (K + 1) c5) (M ++ [(a, l + 1)]).length (rcs (M ++ [(a, l + 1)])) by
              rw [show (M ++ [(a, l + 1)]).length = K + 1 by simp [HK.out], ← rcs_last M a l (l + 1), ← HK.out]; exact ho2)
            clear ho2
            rw [← hwc]
            clear hwc
            go_wp2_with fail
            go_roundw
            case rel => exact ⟨i + 1, _, hlt, by go_num, hid ⟨HO2.out, HBc.out.setCell hgw _, hS.out⟩⟩
            case measure => simp [intOf]; omega
          · have hal' : ¬ (a : Int) + (l : Int) = (i : Int) := by omega
            have hS := hid (hI.out.2.2.new HQ.out hlt hpi.out (fun M' r h => by
              have e2 := List.append_inj_right' h (by simp)
              simp only [List.cons.injEq, and_true] at e2
              rw [← e2]
              exact hal))
            go_wp2_with fail
            go_quiet (fail)
            obtain ⟨wc, hwc⟩ : ∃ wc, wc = wr.drewN nq := ⟨_, rfl⟩
            have HOc := hid (show wc.ownsRow w.heap.size 37 2 (.slice (some ⟨g, 0, none⟩) (K + 1) c5) (K + 1) (rcs (M ++ [(a, l)])) by rw [hwc]; exact own_keep HO.out fun _ _ _ => rfl)
            have HBc := hid (show Below w.heap.size w wc by rw [hwc]; exact below_drewN hI.out.2.1 nq)
            have hs := hid (show ((K + 1) + 1) * 16 ≤ 140737488355328 by have := hLi; omega)
            rw [← hwc]
            clear hwc
            go_wp2_with (at_builtin; refine wpList_appS _ rfl (.tmp 48) (.tmp 51) 53 37 (.agg #[.int .i64 0, .int .i64 0]) 2 16 rfl Tryd.underlying53 info37 rfl (by decide) (by decide) w.heap.size (.slice (some ⟨g, 0, none⟩) (K + 1) c5) (K + 1) (rcs (M ++ [(a, l)])) rfl ?own (wc.heap.size + 1) (some ⟨wc.heap.size, 0, none⟩) 1 1 [.int .i64 i, .int .i64 1] rfl rfl ?hold ?one hs.out ?base ?_)
            case own => exact HOc.out.alloc _
            case hold => exact Holds.of_blk (Blk.new wc 37 #[.int .i64 i, .int .i64 1]) 0 2 (by omega)
            case one => intro u hu; simp at hu; rcases hu with rfl | rfl <;> rfl
            case base => have := HBc.out.size; simp; omega
            intro v' w' hown' hg _
            have HO' := hid (show w'.ownsRow w.heap.size 37 2 v' ((M ++ [(a, l)]) ++ [(i, 1)]).length (rcs ((M ++ [(a, l)]) ++ [(i, 1)])) by
              have e : ((M ++ [(a, l)]) ++ [(i, 1)]).length = (K + 1) + 1 := by simp [HK.out]
              rw [e, rcs_append]; exact hown')
            have HB' := hid (show Below w.heap.size w w' from (HBc.out.alloc HBc.out.size _).grown hg (by have := HBc.out.size; simp; omega) (fun k hk => own_ge HOc.out k hk))
            clear hown' hg
            go_wp2_with fail
            go_roundw
            case rel => exact ⟨i + 1, _, hlt, by go_num, hid ⟨HO'.out, HB'.out, hS.out⟩⟩
            case measure => simp [intOf]; omega
      · have hpi := hid (show p i = false by rw [HP.out]; simp [hf])
        rw [show f i = !on by revert hf; cases f i <;> cases on <;> decide] at e1
        clear hf
        go_wp2_with fail
        go_roundw
        case rel => exact ⟨i + 1, L, hlt, by go_num, hid ⟨hI.out.1, hI.out.2.1, hI.out.2.2.skip HQ.out hlt hpi.out⟩⟩
        case measure => simp [intOf]; omega
    · obtain rfl : i = n := by omega
      go_wp2_with fail
      have hRL := hI.out.2.2.done HQ.out
      obtain ⟨A', c', hv⟩ := own_form hI.out.1
      subst hv
      rw [hRL]
      go_ret
      exact ⟨_, _, rfl, (own_holdsS hI.out.1).1, hI.out.2.1⟩
end
end Go.Proofs.YtafndflddlieiaaDoor
