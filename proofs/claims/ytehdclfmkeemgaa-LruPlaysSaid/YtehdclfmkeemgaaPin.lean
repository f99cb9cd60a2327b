/- Pin, Drop, and a cache that is none. -/
import Derived.Test.YtehdclfmkeemgaaGone
namespace Go.Proofs.Ytehdclfmkeemgaa
open Go.RowKit
attribute [local irreducible] wpQuiet

theorem nil_put (x : Int) (v : ByteArray) (w : World) : Calls Try.prog 13 #[.pointer none, .int .i64 x, .string v] w fun e w' => e = .returned (.slice none 0 0) ∧ w = w' := by
  go_enter Try.func13, Try.ntmps13
  go_wp2_with fail
  go_ret
  exact ⟨rfl, rfl⟩
theorem nil_get (x : Int) (w : World) : Calls Try.prog 15 #[.pointer none, .int .i64 x] w fun e w' => e = .returned (.tuple #[.string ⟨#[]⟩, .bool false]) ∧ w = w' := by
  go_enter Try.func15, Try.ntmps15
  go_wp2_with fail
  go_ret2
  exact ⟨rfl, rfl⟩
theorem nil_pin (x : Int) (b : Bool) (w : World) : Calls Try.prog 17 #[.pointer none, .int .i64 x, .bool b] w fun e w' => e = .returned (.bool false) ∧ w = w' := by
  go_enter Try.func17, Try.ntmps17
  go_wp2_with fail
  go_ret
  exact ⟨rfl, rfl⟩
theorem nil_drop (x : Int) (w : World) : Calls Try.prog 19 #[.pointer none, .int .i64 x] w fun e w' => e = .returned (.bool false) ∧ w = w' := by
  go_enter Try.func19, Try.ntmps19
  go_wp2_with fail
  go_ret
  exact ⟨rfl, rfl⟩
theorem nil_keys (w : World) : Calls Try.prog 20 #[.pointer none] w fun e w' => e = .returned (.slice none 0 0) ∧ w = w' := by
  go_enter Try.func20, Try.ntmps20
  go_wp2_with fail
  go_ret
  exact ⟨rfl, rfl⟩
theorem nil_bytes (w : World) : Calls Try.prog 22 #[.pointer none] w fun e w' => e = .returned (.int .i64 0) ∧ w = w' := by
  go_enter Try.func22, Try.ntmps22
  go_wp2_with fail
  go_ret
  exact ⟨rfl, rfl⟩

section
variable {w : World} {B br M N bm c : Nat} {A : Option Addr} {L : List Ent}
theorem drop_no (h : Hid (LruAt w B br M N L bm A c)) {x : Int} (hx : (Lit.int .i64 x).wf = true) (hn : look L x = none) :
    Calls Try.prog 19 #[.pointer (some ⟨br, 0, none⟩), .int .i64 x] w fun e w' => e = .returned (.bool false) ∧ w = w' := by
  have HC := hid (gone_no h hx hn)
  go_enter Try.func19, Try.ntmps19
  go_wp2_with fail
  refine HC.out.mono ?_
  rintro e w' ⟨rfl, rfl⟩
  go_wp2_with fail
  go_ret
  exact ⟨rfl, rfl⟩
theorem drop_yes (h : Hid (LruAt w B br M N L bm A c)) {i : Nat} {e : Ent} (he : L[i]? = some e) (ht : total L ≤ 9223372036854775807) :
    Calls Try.prog 19 #[.pointer (some ⟨br, 0, none⟩), .int .i64 e.key] w fun r w' => r = .returned (.bool true) ∧ LruAt w' B br M N (L.eraseIdx i) bm A c ∧ Below B w w' ∧ KeptBut w w' br bm A := by
  have HC := hid (gone_yes h he ht)
  go_enter Try.func19, Try.ntmps19
  go_wp2_with fail
  refine HC.out.mono ?_
  rintro r w' ⟨rfl, h1, h2, h3⟩
  have H1 := hid h1
  have H2 := hid h2
  have H3 := hid h3
  clear h1 h2 h3
  go_wp2_with fail
  go_ret
  exact ⟨rfl, H1.out, H2.out, H3.out⟩
theorem pin_no (h : Hid (LruAt w B br M N L bm A c)) {x : Int} (b : Bool) (hx : (Lit.int .i64 x).wf = true) (hn : look L x = none) :
    Calls Try.prog 17 #[.pointer (some ⟨br, 0, none⟩), .int .i64 x, .bool b] w fun e w' => e = .returned (.bool false) ∧ w = w' := by
  have e2 : w.cell? ⟨br, 2, none⟩ = some (.map (some bm)) := by rw [h.out.blk.cell]; rfl
  have hl := h.out.map.look hx
  rw [hn] at hl
  simp only [ptrOf, Option.isSome_none] at hl
  clear hn hx
  go_enter Try.func17, Try.ntmps17
  go_wp2_with fail
  go_ret
  exact ⟨rfl, rfl⟩
end
end Go.Proofs.Ytehdclfmkeemgaa
