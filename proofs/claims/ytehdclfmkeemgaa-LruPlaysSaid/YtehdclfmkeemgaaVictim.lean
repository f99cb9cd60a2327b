/- Which key goes next. -/
import Derived.Test.YtehdclfmkeemgaaPin2
namespace Go.Proofs.Ytehdclfmkeemgaa
open Go.RowKit
attribute [local irreducible] wpQuiet

section
variable {w : World} {B br M N bm c : Nat} {A : Option Addr} {L : List Ent}
set_option maxHeartbeats 400000 in
theorem victim_any (h : Hid (LruAt w B br M N L bm A c)) {i : Nat} (hi : i ≤ L.length) (hp : Hid (∀ j e, j < i → L[j]? = some e → e.p = true)) (hend : Hid (∀ e, L[i]? = some e → e.p = false)) (hl : L.length ≤ 65536) {rk : Int} {rb : Bool} (hr : Hid (rk = (L[i]?.map Ent.key).getD 0 ∧ rb = (L[i]?).isSome)) :
    Calls Try.prog 29 #[.pointer (some ⟨br, 0, none⟩)] w fun r w' => r = .returned (.tuple #[.int .i64 rk, .bool rb]) ∧ w = w' := by
  have e2 : w.cell? ⟨br, 2, none⟩ = some (.map (some bm)) := by rw [h.out.blk.cell]; rfl
  have e3 : w.cell? ⟨br, 3, none⟩ = some (.slice A L.length c) := by rw [h.out.blk.cell]; rfl
  have hrow : Hid (IntsAt w w.heap.size A (keysL L)) := hid (IntsAt.of_holds (Holds.of_own h.out.row))
  go_enter Try.func29, Try.ntmps29
  go_wp2_with fail
  go_loop [11] (fun v => ∃ k : Nat, k ≤ i ∧ v = .int .i64 k) (fun v => L.length - (intOf v).toNat)
  case atStart => exact ⟨0, by omega, rfl⟩
  case round =>
    obtain ⟨k, hk, rfl⟩ := hrel
    by_cases hkl : k < L.length
    · obtain ⟨e, he⟩ : ∃ e, L[k]? = some e := ⟨_, List.getElem?_eq_getElem hkl⟩
      have hmem : e ∈ L := List.mem_of_getElem? he
      obtain ⟨ad, rfl, _, hcc⟩ := hrow.out (by simp [keysL]; omega)
      have hc1 := hcc k (by simp [keysL]; omega)
      rw [show (keysL L).getD k 0 = e.key by simp [keysL, List.getD, he]] at hc1
      have hlk := h.out.map.look1 (h.out.wf e hmem)
      rw [look_at h.out.nodup he] at hlk
      simp only [ptrOf] at hlk
      have ep : w.cell? ⟨e.g, 1, none⟩ = some (.bool e.p) := by rw [(h.out.ent e hmem).cell]; rfl
      have HE := hid he
      clear hcc
      by_cases hki : k < i
      · have hpe := hp.out k e hki he
        rw [hpe] at ep
        clear he hpe hmem
        go_wp2_with fail
        go_round
        case rel => exact ⟨k + 1, by omega, by go_num⟩
        case measure => simp [intOf]; omega
      · obtain rfl : k = i := by omega
        have hpe := hend.out e he
        rw [hpe] at ep
        clear he hpe hmem
        go_wp2_with fail
        go_ret2
        have hk := hr.out
        rw [HE.out] at hk
        obtain ⟨h1, h2⟩ := hk
        rw [h1, h2]
        exact ⟨rfl, rfl⟩
    · obtain rfl : k = L.length := by omega
      obtain rfl : i = L.length := by omega
      go_wp2_with fail
      go_ret2
      have hk := hr.out
      rw [List.getElem?_eq_none (Nat.le_refl _)] at hk
      obtain ⟨h1, h2⟩ := hk
      rw [h1, h2]
      exact ⟨rfl, rfl⟩
end
end Go.Proofs.Ytehdclfmkeemgaa
