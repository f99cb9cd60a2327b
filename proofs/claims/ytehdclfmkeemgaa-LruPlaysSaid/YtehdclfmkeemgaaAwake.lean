/- The example of the chapter (awake) answers true, whatever the memory. -/
import Derived.Test.YtehdclfmkeemgaaCache
namespace Go.Proofs.Ytehdclfmkeemgaa
open Go.RowKit
attribute [local irreducible] wpQuiet
attribute [local go_sem high] run_mxI run_mnI

section
variable {w w' : World} {B br M n : Nat} {S : Nat → Prop} {L : List Ent}
theorem get_n (h : Hid (CacheAt w B br M n S L)) {x : Int} (hx : (Lit.int .i64 x).wf = true) (hn : look L x = none) :
    Calls Try.prog 15 #[.pointer (some ⟨br, 0, none⟩), .int .i64 x] w fun e w' => e = .returned (.tuple #[.string ⟨#[]⟩, .bool false]) ∧ w = w' := by
  obtain ⟨bm, A, c, hL, hS, ht, hl⟩ := h.out
  exact get_no (hid hL) hx hn
end

def aE (g : Nat) : Ent := ⟨1, ⟨#[97]⟩, false, g⟩
def bE (g : Nat) : Ent := ⟨2, ⟨#[98]⟩, false, g⟩
def cE (g : Nat) : Ent := ⟨3, ⟨#[99]⟩, false, g⟩
theorem aw1 (g : Nat) : putL 2 [] 1 ⟨#[97]⟩ g = ([aE g], []) := rfl
theorem aw2 (g h : Nat) : putL 2 [aE g] 2 ⟨#[98]⟩ h = ([aE g, bE h], []) := rfl
theorem aw3 (g h : Nat) : getL [aE g, bE h] 1 = [bE h, aE g] ∧ getV [aE g, bE h] 1 = ⟨#[97]⟩ ∧ look [aE g, bE h] 1 = some g := ⟨rfl, rfl, rfl⟩
theorem aw4 (g h k : Nat) : putL 2 [bE h, aE g] 3 ⟨#[99]⟩ k = ([aE g, cE k], [2]) := rfl
theorem aw5 (g k : Nat) : look [aE g, cE k] 2 = none ∧ look [aE g, cE k] 1 = some g ∧ keysL [aE g, cE k] = [1, 3] ∧ total [aE g, cE k] = 2 ∧ (setP [aE g, cE k] 1 true) = [{ aE g with p := true }, cE k] := ⟨rfl, rfl, rfl, rfl, rfl⟩

theorem ints_two (w : World) (a b : Int) : IntsAt (w.alloc (.cells #[.int .i64 a, .int .i64 b] 3)) (w.alloc (.cells #[.int .i64 a, .int .i64 b] 3)).heap.size (some ⟨w.heap.size, 0, none⟩) [a, b] :=
  IntsAt.blk (Blk.new w 3 #[.int .i64 a, .int .i64 b]) rfl (by simp)
theorem ints_one (w : World) (a : Int) : IntsAt (w.alloc (.cells #[.int .i64 a] 3)) (w.alloc (.cells #[.int .i64 a] 3)).heap.size (some ⟨w.heap.size, 0, none⟩) [a] :=
  IntsAt.blk (Blk.new w 3 #[.int .i64 a]) rfl (by simp)

set_option maxHeartbeats 1600000 in
theorem awake_any (w : World) : Calls Try.prog 8 #[] w fun e w' => e = .returned (.bool true) ∧ Below w.heap.size w w' := by
  go_enter Try.func8, Try.ntmps8
  go_wp2_with fail
  refine (new_c (M := 2) (by decide)).mono ?_
  rintro e w1 ⟨br, S1, rfl, h1, hb⟩
  have C1 := hid h1
  have B1 := hid hb
  clear h1 hb
  go_wp2_with fail
  refine (put_c C1 (by decide) (by decide) (by decide) _ (by decide)).mono ?_
  rintro e w2 ⟨g1, A1, c1, rfl, _, _, hs⟩
  rw [aw1] at hs ⊢
  have B2 := hid (B1.out.trans (hs.below C1.out))
  obtain ⟨S2, h2, _, _⟩ := hs
  have C2 := hid h2
  clear h2 C1 B1
  go_wp2_with fail
  refine (put_c C2 (by decide) (by decide) (by decide) _ (by decide)).mono ?_
  rintro e w3 ⟨g2, A2, c2, rfl, _, _, hs⟩
  rw [aw2] at hs ⊢
  have B3 := hid (B2.out.trans (hs.below C2.out))
  obtain ⟨S3, h3, _, _⟩ := hs
  have C3 := hid h3
  clear h3 C2 B2
  go_wp2_with fail
  refine (get_c C3 (x := 1) (by decide) (by decide)).mono ?_
  obtain ⟨q1, q2, q3⟩ := aw3 g1 g2
  rw [q1, q2, q3]
  rintro e w4 ⟨rfl, hs⟩
  have B4 := hid (B3.out.trans (hs.below C3.out))
  obtain ⟨S4, h4, _, _⟩ := hs
  have C4 := hid h4
  clear h4 C3 B3 q1 q2 q3
  go_wp2_with fail
  refine (put_c C4 (by decide) (by decide) (by decide) _ (by decide)).mono ?_
  rintro e w5 ⟨g3, A5, c5, rfl, _, hi, hs⟩
  rw [aw4] at hi hs ⊢
  have B5 := hid (B4.out.trans (hs.below C4.out))
  have I5 := hid hi
  obtain ⟨S5, h5, _, _⟩ := hs
  have C5 := hid h5
  clear h5 C4 B4 hi
  obtain ⟨q1, q2, q3, q4, q5⟩ := aw5 g1 g3
  have Q1 := hid q1
  have Q2 := hid q2
  have Q3 := hid q3
  have Q4 := hid q4
  have Q5 := hid q5
  clear q1 q2 q3 q4 q5
  go_wp2_with fail
  refine (get_n C5 (x := 2) (by decide) Q1.out).mono ?_
  rintro e w6 ⟨rfl, rfl⟩
  go_wp2_with fail
  refine (ints_any (xs := [2]) (ys := [2]) (hid (I5.out.below ((Below.refl _ _).alloc (Nat.le_refl _) _))) rfl (hid (ints_one w5 2)) rfl (by decide)).mono ?_
  rintro e w6 ⟨rfl, j, rfl⟩
  have hc6 : Hid (CacheAt ((w5.alloc (.cells #[.int .i64 2] 3)).drewN j) w.heap.size br 2 (0 + 1 + 1 + 1) S5 [aE g1, cE g3]) := hid ((C5.out.below ((Below.refl _ _).alloc (Nat.le_refl _) _)).drewN j)
  have HD : decide (([2] : List Int) = [2]) = true := rfl
  rw [HD]
  clear HD
  go_wp2_with fail
  refine (keys_c hc6 (by decide)).mono ?_
  rintro e w7 ⟨A7, c7, rfl, hi, hb⟩
  rw [Q3.out] at hi
  have I7 := hid hi
  have B7 := hid hb
  clear hi hb
  go_wp2_with fail
  refine (ints_any (xs := [1, 3]) (ys := [1, 3]) (hid (I7.out.below ((Below.refl _ _).alloc (Nat.le_refl _) _))) rfl (hid (ints_two w7 1 3)) rfl (by decide)).mono ?_
  rintro e w8 ⟨rfl, j2, rfl⟩
  have hc8 : Hid (CacheAt ((w7.alloc (.cells #[.int .i64 1, .int .i64 3] 3)).drewN j2) w.heap.size br 2 (0 + 1 + 1 + 1) S5 [aE g1, cE g3]) := hid ((hc6.out.below (B7.out.alloc (by have := B7.out.size; omega) _)).drewN j2)
  have HD : decide (([1, 3] : List Int) = [1, 3]) = true := rfl
  rw [HD]
  clear HD
  go_wp2_with fail
  refine (bytes_c hc8).mono ?_
  rintro e w9 ⟨rfl, rfl⟩
  rw [Q4.out]
  go_wp2_with fail
  refine (pin_c hc8 (x := 1) true (by decide)).mono ?_
  rw [Q2.out, Q5.out]
  rintro e w9 ⟨rfl, hs⟩
  have B9 := hid (hs.below hc8.out)
  obtain ⟨S9, h9, _, _⟩ := hs
  have C9 := hid h9
  clear h9
  go_wp2_with fail
  refine (pin_c C9 (x := 2) true (by decide)).mono ?_
  rintro e w10 ⟨rfl, hs⟩
  have B10 := hid (hs.below C9.out)
  obtain ⟨S10, h10, _, _⟩ := hs
  have C10 := hid h10
  clear h10
  have HD : (look [{ aE g1 with p := true }, cE g3] 2).isSome = false := rfl
  rw [HD]
  clear HD
  go_wp2_with fail
  refine (drop_c C10 (x := 3) (by decide) (by decide)).mono ?_
  rintro e w11 ⟨rfl, hs⟩
  have B11 := hid (hs.below C10.out)
  clear hs
  have HD : (look (setP [{ aE g1 with p := true }, cE g3] 2 true) 3).isSome = true := rfl
  rw [HD]
  clear HD
  go_wp2_with fail
  go_ret
  refine ⟨rfl, ?_⟩
  have b5 := B5.out
  have b6 := below_drewN (b5.alloc b5.size (.cells #[.int .i64 2] 3)) j
  have b7 := b6.trans (B7.out.mono b6.size)
  have b8 := below_drewN (b7.alloc b7.size (.cells #[.int .i64 1, .int .i64 3] 3)) j2
  exact ((b8.trans B9.out).trans B10.out).trans B11.out
end Go.Proofs.Ytehdclfmkeemgaa
