/- Pin of a key that is kept. -/
import Derived.Test.YtehdclfmkeemgaaPin
namespace Go.Proofs.Ytehdclfmkeemgaa
open Go.RowKit
attribute [local irreducible] wpQuiet

def pinL (L : List Ent) (i : Nat) (e : Ent) (b : Bool) : List Ent := L.set i { e with p := b }
theorem map_pin {α : Type} (f : Ent → α) {L : List Ent} {i : Nat} {e : Ent} (he : L[i]? = some e) (b : Bool) (hf : f { e with p := b } = f e) : (pinL L i e b).map f = L.map f := by
  unfold pinL
  rw [List.map_set, hf]
  apply List.ext_getElem?
  intro j
  rw [List.getElem?_set]
  split
  · rename_i hij
    subst hij
    have hi : i < L.length := (List.getElem?_eq_some_iff.1 he).1
    rw [if_pos (by simpa using hi), List.getElem?_map, he]
    rfl
  · rfl
theorem look_map (L : List Ent) (x : Int) : look L x = ((L.map fun e => (e.key, e.g)).find? fun q => q.1 == x).map Prod.snd := by
  unfold look
  rw [List.find?_map, Option.map_map]
  rfl
section
variable {w : World} {B br M N bm c : Nat} {A : Option Addr} {L : List Ent}
theorem pin_yes (h : Hid (LruAt w B br M N L bm A c)) {i : Nat} {e : Ent} (he : L[i]? = some e) (b : Bool) :
    Calls Try.prog 17 #[.pointer (some ⟨br, 0, none⟩), .int .i64 e.key, .bool b] w fun r w' => r = .returned (.bool true) ∧ LruAt w' B br M N (pinL L i e b) bm A c ∧ Below B w w' ∧ ∀ k, k ≠ e.g → w'.heap[k]? = w.heap[k]? := by
  have hmem : e ∈ L := List.mem_of_getElem? he
  have e2 : w.cell? ⟨br, 2, none⟩ = some (.map (some bm)) := by rw [h.out.blk.cell]; rfl
  have hl := h.out.map.look (h.out.wf e hmem)
  rw [look_at h.out.nodup he] at hl
  simp only [ptrOf, Option.isSome_some] at hl
  have hbe := h.out.ent e hmem
  have eg : w.cell? ⟨e.g, 1, none⟩ = some (.bool e.p) := by rw [hbe.cell]; rfl
  have f1 := hbe.frozen 1
  have HBE := hid hbe
  clear hbe
  go_enter Try.func17, Try.ntmps17
  go_wp2_with fail
  go_ret
  have hne : br ≠ e.g := h.out.blk.ne_ HBE.out (by decide)
  have hbmne : bm ≠ e.g := fun e' => by
    obtain ⟨D, ⟨es, clock, hbb, _⟩, _⟩ := h.out.map
    have hb := HBE.out
    unfold Blk at hb
    rw [← e', hbb] at hb
    cases hb
  have hlen : (pinL L i e b).length = L.length := by simp [pinL]
  have hkey : keysL (pinL L i e b) = keysL L := map_pin Ent.key he b rfl
  have htot : total (pinL L i e b) = total L := by unfold total; rw [map_pin (fun e => e.v.size) he b rfl]
  have hlook : look (pinL L i e b) = look L := funext fun x => by rw [look_map, look_map, map_pin (fun e => (e.key, e.g)) he b rfl]
  have hin : ∀ z ∈ pinL L i e b, z = { e with p := b } ∨ (z ∈ L ∧ z.g ≠ e.g) := by
    intro z hz
    obtain ⟨j, hj, rfl⟩ := List.getElem_of_mem hz
    unfold pinL at hj ⊢
    rw [List.getElem_set]
    split
    · exact .inl rfl
    · rename_i hij
      rw [List.length_set] at hj
      refine .inr ⟨List.getElem_mem hj, fun hg => hij ?_⟩
      have hi : i < L.length := (List.getElem?_eq_some_iff.1 he).1
      have hei : L[i] = e := by rw [List.getElem?_eq_getElem hi] at he; exact Option.some.inj he
      have := (List.getElem_inj (i := j) (j := i) (h₀ := by simpa using hj) (h₁ := by simpa using hi) h.out.gs).1 (by simpa [hei] using hg)
      omega
  refine ⟨rfl, ⟨?_, ?_, ?_, ?_, ?_, ?_, ?_, ?_⟩, (Below.refl B w).setCell (h.out.base.2.2 e hmem) _, fun k hk => Below.heap_setCell _ _ _ _ hk⟩
  · rw [htot, hlen]; exact h.out.blk.far hne _
  · rw [hlook]; exact h.out.map.keep (Below.heap_setCell _ _ _ _ hbmne)
  · intro z hz
    rcases hin z hz with rfl | ⟨hz, hg⟩
    · exact HBE.out.set_ 1 (.bool b)
    · exact (h.out.ent z hz).far hg _
  · rw [hkey, hlen]
    by_cases h0 : 0 < L.length
    · obtain ⟨g, cur, rfl, _, hcur, _⟩ := row_form h.out.row h0
      exact own_at h.out.row (Below.heap_setCell _ _ _ _ (show g ≠ e.g from Blk.ne_ (show Blk w g 3 cur from hcur) HBE.out (by decide)))
    · exact absurd (List.length_pos_of_mem hmem) h0
  · rw [hkey]; exact h.out.nodup
  · rw [map_pin Ent.g he b rfl]; exact h.out.gs
  · intro z hz
    rcases hin z hz with rfl | ⟨hz, _⟩
    · exact h.out.wf e hmem
    · exact h.out.wf z hz
  · refine ⟨h.out.base.1, h.out.base.2.1, fun z hz => ?_⟩
    rcases hin z hz with rfl | ⟨hz, _⟩
    · exact h.out.base.2.2 e hmem
    · exact h.out.base.2.2 z hz
end
end Go.Proofs.Ytehdclfmkeemgaa
