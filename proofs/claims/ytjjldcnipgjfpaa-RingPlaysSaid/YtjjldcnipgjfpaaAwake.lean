/- The example of the chapter (awake) answers true, whatever the memory. -/
import Derived.Test.YtjjldcnipgjfpaaRing2
namespace Go.Proofs.Ytjjldcnipgjfpaa
open Go.RowKit
attribute [local go_sem high] run_mxI run_mnI

theorem below_only {w w1 w2 : World} {br bl : Nat} (hb : Below w.heap.size w w1) (h1 : w.heap.size ≤ br) (h2 : w.heap.size ≤ bl) (ho : Only (fun k => k = br ∨ k = bl) w1 w2) : Below w.heap.size w w2 :=
  hb.trans (ho.below hb.size fun k hk => by rintro (rfl | rfl) <;> omega)

theorem len_at {br bl N : Nat} {L : List ByteArray} {w : World} (h : RingAt w br bl N L) :
    Calls Try.prog 10 #[.pointer (some ⟨br, 0, none⟩)] w fun e w' => e = .returned (.int .i64 L.length) ∧ w = w' := by
  obtain ⟨a, cs, h⟩ := h
  exact len_any h.c2
theorem room_at {br bl N : Nat} {L : List ByteArray} {w : World} (h : RingAt w br bl N L) :
    Calls Try.prog 11 #[.pointer (some ⟨br, 0, none⟩)] w fun e w' => e = .returned (.int .i64 ((N : Int) - L.length)) ∧ ∃ k, w' = w.drewN k := by
  obtain ⟨a, cs, h⟩ := h
  exact room_any h.c0 h.c2 h.top h.fit
theorem take_at_no {br bl N : Nat} {w : World} (h : RingAt w br bl N []) :
    Calls Try.prog 12 #[.pointer (some ⟨br, 0, none⟩)] w fun e w' => e = .returned (.tuple #[.string ⟨#[]⟩, .bool false]) ∧ w = w' := by
  obtain ⟨a, cs, h⟩ := h
  exact take_no h.c2

set_option maxHeartbeats 800000 in
theorem awake_any (w : World) : Calls Try.prog 7 #[] w fun e w' => e = .returned (.bool true) ∧ Below w.heap.size w w' := by
  go_enter Try.func7, Try.ntmps7
  go_wp2_with fail
  refine (new_at (N := 1) (by decide)).mono ?_
  rintro e w1 ⟨br, bl, rfl, hbr, hbl, hr, hb⟩
  have R1 := hid hr
  have B1 := hid hb
  have HR := hid hbr
  have HL := hid hbl
  clear hr hb hbr hbl
  go_wp2_with fail
  refine (put_at_yes R1.out (by simp) (by decide)).mono ?_
  rintro e w2 ⟨rfl, hr, ho⟩
  have R2 := hid hr
  have B2 := hid (below_only B1.out HR.out HL.out ho)
  clear hr ho
  go_wp2_with fail
  refine (put_at_no R2.out (by simp)).mono ?_
  rintro e w3 ⟨rfl, hr, ho⟩
  have R3 := hid hr
  have B3 := hid (below_only B2.out HR.out HL.out ho)
  clear hr ho
  go_wp2_with fail
  refine (peek_at_yes (i := 0) R3.out rfl).mono ?_
  rintro e w4 ⟨rfl, k, rfl⟩
  go_wp2_with fail
  refine (take_yes (hid (R3.out.drewN k))).mono ?_
  rintro e w5 ⟨rfl, hr, ho⟩
  have R5 := hid hr
  have B5 := hid (below_only B3.out HR.out HL.out (((Only.refl _ _).drewN k).trans ho))
  clear hr ho
  go_wp2_with fail
  refine (take_at_no R5.out).mono ?_
  rintro e w6 ⟨rfl, rfl⟩
  go_wp2_with fail
  refine (len_at R5.out).mono ?_
  rintro e w6 ⟨rfl, rfl⟩
  go_wp2_with fail
  refine (room_at R5.out).mono ?_
  rintro e w6 ⟨rfl, j, rfl⟩
  go_wp2_with fail
  go_ret
  exact ⟨rfl, below_only B5.out HR.out HL.out ((Only.refl _ _).drewN j)⟩

end Go.Proofs.Ytjjldcnipgjfpaa
