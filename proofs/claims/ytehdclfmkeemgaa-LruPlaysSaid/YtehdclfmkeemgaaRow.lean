/- A row of numbers of the call's own: one is taken out; all are copied. -/
import Derived.Test.YtehdclfmkeemgaaDel
import Derived.Sort.OwnSortedInts
namespace Go.Proofs.Ytehdclfmkeemgaa
open Go.RowKit
attribute [local irreducible] wpQuiet

def nums (l : List Int) : List Value := l.map (Value.int .i64)
theorem nums_length (l : List Int) : (nums l).length = l.length := by simp [nums]
theorem nums_append (l m : List Int) : nums (l ++ m) = nums l ++ nums m := by simp [nums]
theorem nums_one (l : List Int) : ∀ u ∈ nums l, u.oneCell' = true := by
  intro u hu
  obtain ⟨x, _, rfl⟩ := List.mem_map.1 hu
  rfl

theorem own_shrink {w : World} {base e g n m c : Nat} {xs : List Value} (h : w.ownsRow base e 1 (.slice (some ⟨g, 0, none⟩) n c) n xs) (hm : m ≤ n) :
    w.ownsRow base e 1 (.slice (some ⟨g, 0, none⟩) m c) m (xs.take m) := by
  obtain ⟨hl, h⟩ := h
  rcases h with ⟨h0, _⟩ | ⟨g', cap, cur, hv, hb, hc, hn, hcap, hs, ht⟩
  · cases h0
  · cases hv
    refine ⟨by rw [List.length_take]; omega, .inr ⟨g, c, cur, rfl, hb, hc, by omega, hcap, hs, ?_⟩⟩
    rw [← ht, Nat.mul_one, Nat.mul_one, List.take_take, Nat.min_eq_left hm]

theorem del_any {ks : List Int} {base g c i : Nat} {w : World} (hown : Hid (w.ownsRow base 3 1 (.slice (some ⟨g, 0, none⟩) ks.length c) ks.length (nums ks))) (hi : i < ks.length) :
    Calls Try.prog 32 #[.slice (some ⟨g, 0, none⟩) ks.length c, .int .i64 i, .int .i64 ((i : Int) + 1)] w fun e w' =>
      e = .returned (.slice (some ⟨g, 0, none⟩) (ks.length - 1) c) ∧ w'.ownsRow base 3 1 (.slice (some ⟨g, 0, none⟩) (ks.length - 1) c) (ks.length - 1) (nums (ks.eraseIdx i)) ∧ w.grownBy w' (some g) := by
  obtain ⟨hl, h⟩ := hown.out
  rcases h with ⟨h0, _⟩ | ⟨g', cap, cur, hv, hb, hc, hn, hcap, hs, ht⟩
  · cases h0
  · cases hv
    rw [Nat.mul_one] at ht
    have hH := Go.holds_of_blockI hc ht
    have hd := delete_arr_any g 0 c i (i + 1) ks.toArray w hH (by simpa using hn) (by unfold maxLen at hcap; omega) (by omega) (by simp; omega)
    rw [show (((i + 1 : Nat)) : Int) = (i : Int) + 1 by omega] at hd
    simp only [List.size_toArray] at hd
    refine hd.mono ?_
    rintro e w' ⟨rfl, q, rfl⟩
    refine ⟨by rw [show i + 1 - i = 1 by omega], ?_, ?_⟩
    · have hlen : (ks.take i ++ ks.drop (i + 1) ++ List.replicate (i + 1 - i) 0).length = ks.length := by
        simp only [List.length_append, List.length_take, List.length_drop, List.length_replicate]; omega
      have h1 := Go.ownsRow_sortedI (os := #[]) (n := q) (base := base) hlen hb hc hn hcap hs
      have h2 := own_shrink h1 (m := ks.length - 1) (by omega)
      have e1 : (List.map (Value.int .i64) (ks.take i ++ ks.drop (i + 1) ++ List.replicate (i + 1 - i) 0)).take (ks.length - 1) = nums (ks.eraseIdx i) := by
        unfold nums
        rw [← List.map_take, List.eraseIdx_eq_take_drop_succ, List.take_left' (by simp only [List.length_append, List.length_take, List.length_drop]; omega)]
      rw [e1] at h2
      simpa using h2
    · have := Go.grownBy_sortedI (w := w) (g := g) (n := q) (os := #[]) (ks.take i ++ ks.drop (i + 1) ++ List.replicate (i + 1 - i) 0).toArray
      simpa using this

set_option maxHeartbeats 400000 in
theorem clone_any {A : Option Addr} {n c B : Nat} {ks : List Int} {w : World} (h : Hid (IntsAt w B A ks)) (hB : B ≤ w.heap.size) (hn : ks.length = n) (hl : n ≤ 65536) :
    Calls Try.prog 33 #[.slice A n c] w fun e w' => ∃ A' c', e = .returned (.slice A' n c') ∧ IntsAt w' w'.heap.size A' ks ∧ Below w.heap.size w w' := by
  have q33 : ∀ (w : World) (a : Option Addr) (n c n' c' : Nat), (binOp .eql 33 (.slice a n c) (.slice none n' c')).run Try.prog w = .ok (.bool a.isNone) w := fun w a n c n' c' => Lib.run_eql_slice_nil w _ _ a n c n' c' Try.underlying33
  cases A with
  | none =>
    have h0 : ks.length = 0 := by
      rcases Nat.eq_zero_or_pos ks.length with h1 | h1
      · exact h1
      · obtain ⟨ad, e, _⟩ := h.out h1; cases e
    obtain rfl : n = 0 := by omega
    go_enter Try.func33, Try.ntmps33
    go_wp2_with fail
    go_ret
    exact ⟨_, _, rfl, fun hx => absurd hx (by omega), Below.refl _ _⟩
  | some ad =>
    have hh := hid (h.out.holds.below ((Below.refl B w).alloc hB (.cells #[] 3)))
    have hlen := hid (show (nums ks).length = n by rw [nums_length, hn])
    have hsz := hid (show (([] : List Value).length + (nums ks).length) * 8 ≤ 140737488355328 by rw [nums_length]; simp; omega)
    have hB1 := hid ((Below.refl w.heap.size w).alloc (Nat.le_refl _) (.cells #[] 3))
    have HN := hid hn
    clear hn
    go_enter Try.func33, Try.ntmps33
    go_wp2_with (at_builtin; refine wpList_app _ rfl (.tmp 5) (.tmp 6) 33 3 (.int .i64 0) 8 rfl Try.underlying33 info3 rfl (by decide) w.heap.size (.slice (some ⟨w.heap.size, 0, none⟩) 0 0) [] rfl ?own B (some ad) c n (nums ks) rfl hlen.out hh.out (nums_one ks) hsz.out ?base ?_)
    case own => exact ⟨rfl, .inr ⟨_, 0, #[], rfl, Nat.le_refl _, heap_alloc_new w _, by simp, by simp, rfl, rfl⟩⟩
    case base => simp
    intro v' w' hown hg _
    have hx : Hid (w'.ownsRow w.heap.size 3 1 v' n (nums ks)) := hid (by rw [← hlen.out]; simpa using hown)
    obtain ⟨A2, c2, hv⟩ := own_form hx.out
    subst hv
    have HB2 : Hid (Below w.heap.size w w') := hid (hB1.out.grown hg (by simp) (fun q hq => by simp [Value.ownBlock] at hq; omega))
    clear hown hg
    go_wp2_with fail
    go_ret
    exact ⟨_, _, rfl, IntsAt.of_holds (Holds.of_own hx.out), HB2.out⟩

end Go.Proofs.Ytehdclfmkeemgaa
