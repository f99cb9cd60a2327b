/- The reference's Take and Free. -/
import Derived.Test.YtafndflddlieiaaDoorRefD
namespace Go.Proofs.YtafndflddlieiaaDoor
open Go.RowKit
attribute [local irreducible] wpQuiet
attribute [local go_sem high] run_mxI run_mnI

section
variable {w : World} {B n c : Nat} {A : Option Addr} {f : Nat → Bool}
theorem rtake_bad {x : Int} (hx : x < 1) : Calls Tryd.prog 19 #[.slice A n c, .int .i64 x] w fun e w' => e = .returned (.tuple #[.slice A n c, .int .i64 0, .int .i64 1]) ∧ w = w' := by
  go_enter Tryd.func19, Tryd.ntmps19
  go_wp2_with fail
  refine bodyPost_ret (v := .tuple #[.slice A n c, .int .i64 0, .int .i64 1]) (by simp [results, Tryd.results19, go_sem]) rfl ⟨rfl, rfl⟩
theorem rtake_full (h : Hid (Holds w B A (bcs f n))) (hB : B ≤ w.heap.size) (hn : n ≤ 4096) {x : Int} (hx : 1 ≤ x) {p q : Nat → Bool} (hp : ∀ y, p y = (f y == false)) (hq : ∀ y, q y = !p y) (hf : findR x (rowsF p q n 0) = -1) :
    Calls Tryd.prog 19 #[.slice A n c, .int .i64 x] w fun e w' => e = .returned (.tuple #[.slice A n c, .int .i64 0, .int .i64 5]) ∧ Below w.heap.size w w' := by
  have hF := rfind_any (c := c) h hB hn x hp hq rfl
  rw [hf] at hF
  have HF := hid hF
  clear hF hf hp hq
  go_enter Tryd.func19, Tryd.ntmps19
  go_wp2_with fail
  refine HF.out.mono ?_
  rintro e w1 ⟨rfl, hb⟩
  have B1 := hid hb
  clear hb
  go_wp2_with fail
  refine bodyPost_ret (v := .tuple #[.slice A n c, .int .i64 0, .int .i64 5]) (by simp [results, Tryd.results19, go_sem]) rfl ⟨rfl, B1.out⟩
theorem rtake_yes (h : Hid (Holds w B A (bcs f n))) (hB : B ≤ w.heap.size) (hn : n ≤ 4096) {x r : Nat} (hx : 1 ≤ x) (hr : r + x ≤ n) {p q : Nat → Bool} (hp : ∀ y, p y = (f y == false)) (hq : ∀ y, q y = !p y) (hf : findR x (rowsF p q n 0) = r) :
    Calls Tryd.prog 19 #[.slice A n c, .int .i64 x] w fun e w' => ∃ A' c', e = .returned (.tuple #[.slice A' n c', .int .i64 r, .int .i64 0]) ∧ RefTo n (fun y => if r ≤ y ∧ y < r + x then true else f y) w w' A' := by
  have hF := rfind_any (c := c) h hB hn x hp hq rfl
  rw [hf] at hF
  have HF := hid hF
  have hRow := hid (fun (v : World) (hv : Hid (Holds v B A (bcs f n))) (hb : B ≤ v.heap.size) => rrow_any (c := c) hv hb hn hx hr true)
  clear hF hf hp hq
  go_enter Tryd.func19, Tryd.ntmps19
  go_wp2_with fail
  refine HF.out.mono ?_
  rintro e w1 ⟨rfl, hb⟩
  have B1 := hid hb
  have H1 := hid (h.out.below (hb.mono hB))
  have hs1 := hb.size
  clear hb
  go_wp2_with fail
  refine (hRow.out w1 H1 (by omega)).mono ?_
  rintro e w2 ⟨A', c', rfl, hh, hb2⟩
  have H2 := hid hh
  have B2 := hid (B1.out.trans (hb2.mono hs1))
  clear hh hb2
  go_wp2_with fail
  refine bodyPost_ret (v := .tuple #[.slice A' n c', .int .i64 r, .int .i64 0]) (by simp [results, Tryd.results19, go_sem]) rfl ⟨_, _, rfl, H2.out, B2.out⟩
end
end Go.Proofs.YtafndflddlieiaaDoor
