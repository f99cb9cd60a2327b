/- The cache in memory, as a list of entries, that used the longest ago first; New, Bytes, Keys, Pin. -/
import Derived.Test.YtehdclfmkeemgaaRow
namespace Go.Proofs.Ytehdclfmkeemgaa
open Go.RowKit
attribute [local irreducible] wpQuiet
attribute [local go_sem high] run_mxI run_mnI

structure Ent where
  key : Int
  v : ByteArray
  p : Bool
  g : Nat
def keysL (L : List Ent) : List Int := L.map Ent.key
def total (L : List Ent) : Nat := (L.map fun e => e.v.size).sum
def look (L : List Ent) (x : Int) : Option Nat := (L.find? fun e => e.key == x).map Ent.g

structure LruAt (w : World) (B br M N : Nat) (L : List Ent) (bm : Nat) (A : Option Addr) (c : Nat) : Prop where
  blk : Blk w br 57 #[.int .i64 M, .int .i64 (total L : Nat), .map (some bm), .slice A L.length c]
  map : MapAt w bm N (look L)
  ent : ∀ e ∈ L, Blk w e.g 65 #[.string e.v, .bool e.p]
  row : w.ownsRow B 3 1 (.slice A L.length c) L.length (nums (keysL L))
  nodup : (keysL L).Nodup
  gs : (L.map Ent.g).Nodup
  wf : ∀ e ∈ L, (Lit.int .i64 e.key).wf = true
  base : B ≤ br ∧ B ≤ bm ∧ ∀ e ∈ L, B ≤ e.g

theorem mn_nat (s : Int) : ∃ K : Nat, mnI (mxI s 0) 65536 = (K : Int) ∧ K ≤ 65536 := by
  refine ⟨(mnI (mxI s 0) 65536).toNat, ?_, ?_⟩ <;> unfold mnI mxI <;> split <;> split <;> omega

set_option maxHeartbeats 400000 in
theorem new_any {m : Int} {M : Nat} {w : World} (hM : mnI (mxI m 0) 65536 = (M : Int)) :
    Calls Try.prog 9 #[.int .i64 m] w fun e w' => ∃ br bm, e = .returned (.pointer (some ⟨br, 0, none⟩)) ∧ LruAt w' w.heap.size br M 0 [] bm none 0 ∧ Below w.heap.size w w' := by
  have hmm := @run_makeMap Try.prog
  go_enter Try.func9, Try.ntmps9
  go_wp2
  go_ret
  refine ⟨w.heap.size + 1, w.heap.size, rfl, ⟨?_, ?_, ?_, ?_, List.nodup_nil, List.nodup_nil, ?_, ?_⟩, ?_⟩
  · have := Blk.new (w.alloc (.map #[] 0)) 57 #[.int .i64 M, .int .i64 0, .map (some w.heap.size), .slice none 0 0]
    simpa [total] using this
  · exact (MapAt.new w).keep (Below.heap_alloc _ _ _ (by simp))
  · intro e he; cases he
  · exact World.ownsRow_nil _ _ _ _
  · intro e he; cases he
  · exact ⟨Nat.le_succ _, Nat.le_refl _, fun e he => by cases he⟩
  · exact ((Below.refl _ _).alloc (Nat.le_refl _) _).alloc (by simp) _

section
variable {w : World} {B br M N bm c : Nat} {A : Option Addr} {L : List Ent}
theorem bytes_any (h : Hid (LruAt w B br M N L bm A c)) : Calls Try.prog 22 #[.pointer (some ⟨br, 0, none⟩)] w fun e w' => e = .returned (.int .i64 (total L : Nat)) ∧ w = w' := by
  have e1 : w.cell? ⟨br, 1, none⟩ = some (.int .i64 (total L : Nat)) := by rw [h.out.blk.cell]; rfl
  go_enter Try.func22, Try.ntmps22
  go_wp2
  go_ret
  exact ⟨rfl, rfl⟩
theorem keys_any (h : Hid (LruAt w B br M N L bm A c)) (hl : L.length ≤ 65536) : Calls Try.prog 20 #[.pointer (some ⟨br, 0, none⟩)] w fun e w' => ∃ A' c', e = .returned (.slice A' L.length c') ∧ IntsAt w' w'.heap.size A' (keysL L) ∧ Below w.heap.size w w' := by
  have e3 : w.cell? ⟨br, 3, none⟩ = some (.slice A L.length c) := by rw [h.out.blk.cell]; rfl
  have hi : Hid (IntsAt w w.heap.size A (keysL L)) := hid (IntsAt.of_holds (Holds.of_own h.out.row))
  have hk : (keysL L).length = L.length := by simp [keysL]
  have HC := hid (clone_any (w := w) (c := c) hi (Nat.le_refl _) hk hl)
  clear hk
  go_enter Try.func20, Try.ntmps20
  go_wp2_with fail
  refine HC.out.mono ?_
  rintro e w' ⟨A', c', rfl, hr, hb⟩
  have HR := hid hr
  have HB := hid hb
  clear hr hb
  go_wp2_with fail
  go_ret
  exact ⟨_, _, rfl, HR.out, HB.out⟩
end
end Go.Proofs.Ytehdclfmkeemgaa
