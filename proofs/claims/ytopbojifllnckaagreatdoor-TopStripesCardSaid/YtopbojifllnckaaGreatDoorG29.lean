/- bytes: Cut; parity: Encode. parity: the plain law of fragments. parity: Right. -/
import Derived.StillTailTactics
import Derived.Test.YtopbojifllnckaaGreatDoorG28
namespace Go.Proofs.YtopbojifllnckaaGreatDoor
open Go.RowKit
attribute [local irreducible] wpQuiet
theorem info9 : (Tryz.prog.info? 9).map (fun i => (i.zero, i.size, i.bytes)) = some (some (.string ⟨#[]⟩), 1, 16) := by kernel_rfl
def lenOf : Value → Nat
  | .string s => s.size
  | _ => 0
def capOf : Value → Nat
  | .slice _ n _ => n
  | _ => 0
theorem bt_extract (u : ByteArray) (a b j : Nat) (h : a + j < b) (hb : b ≤ u.size) : bt (u.extract a b) j = bt u (a + j) := by
  have h1 : j < (u.extract a b).size := by rw [ByteArray.size_extract]; omega
  rw [bt_get _ _ h1, bt_get _ _ (by omega : a + j < u.size), ByteArray.getElem_extract]
theorem bt_append (u t : ByteArray) (j : Nat) : bt (u ++ t) j = if j < u.size then bt u j else bt t (j - u.size) := by
  unfold bt
  rw [ByteArray.data_append, Array.toList_append, List.getD_eq_getElem?_getD, List.getD_eq_getElem?_getD, List.getD_eq_getElem?_getD]
  have hl : u.data.toList.length = u.size := by rw [Array.length_toList]; rfl
  by_cases h : j < u.size
  · rw [if_pos h, List.getElem?_append_left (by omega)]
  · rw [if_neg h, List.getElem?_append_right (by omega), hl]
theorem bt_zero (n j : Nat) : bt (zeroS n) j = 0 := by
  unfold bt zeroS
  rw [List.getD_eq_getElem?_getD]
  simp only [List.getElem?_replicate]
  split <;> rfl
/-- Piece j of a text. -/
def pc (s : ByteArray) (m j : Nat) : ByteArray := mkB m fun x => bt s (j * m + x)
def pcs (s : ByteArray) (m p : Nat) : List ByteArray := (List.range p).map (pc s m)
theorem pcs_succ (s : ByteArray) (m p : Nat) : strs (pcs s m (p + 1)) = strs (pcs s m p) ++ [.string (pc s m p)] := by
  unfold pcs strs
  rw [List.range_succ]
  simp
theorem pcs_len (s : ByteArray) (m p : Nat) : (pcs s m p).length = p := by simp [pcs]
theorem pc_front {s u : ByteArray} {m i : Nat} (hu : ∀ j, bt u j = bt s (i * m + j)) (hm : m ≤ u.size) : u.extract 0 m = pc s m i := by
  refine ext_bt (by rw [ByteArray.size_extract, pc, mkB_size]; omega) fun j hj => ?_
  rw [ByteArray.size_extract] at hj
  rw [bt_extract u 0 m j (by omega) hm, pc, bt_mkB, if_pos (by omega), Nat.zero_add]
  exact hu j
theorem pc_last {s u : ByteArray} {m i : Nat} (hu : ∀ j, bt u j = bt s (i * m + j)) (hm : u.size ≤ m) : u ++ zeroS (m - u.size) = pc s m i := by
  refine ext_bt (by rw [ByteArray.size_append, zeroS_size, pc, mkB_size]; omega) fun j hj => ?_
  rw [ByteArray.size_append, zeroS_size] at hj
  rw [bt_append, pc, bt_mkB, if_pos (c := j < m) (by omega)]
  by_cases h : j < u.size
  · rw [if_pos h]; exact hu j
  · rw [if_neg h, bt_zero, ← hu j, bt_ge u j (by omega)]
theorem bt_rest {s u : ByteArray} {m i : Nat} (hu : ∀ j, bt u j = bt s (i * m + j)) (hm : m ≤ u.size) (j : Nat) : bt (u.extract m u.size) j = bt s ((i + 1) * m + j) := by
  have _ := hm
  by_cases h : m + j < u.size
  · rw [bt_extract u m u.size j h (Nat.le_refl _), hu, show i * m + (m + j) = (i + 1) * m + j by rw [Nat.add_mul]; omega]
  · rw [bt_ge _ _ (by rw [ByteArray.size_extract]; omega), ← show i * m + (m + j) = (i + 1) * m + j by rw [Nat.add_mul]; omega, ← hu, bt_ge u _ (by omega)]
section
variable {w w' : World}
/-- Where Cut's loop stands: i pieces were cut, u is left. -/
def CutRel (w wr : World) (s : ByteArray) (m i : Nat) (u : ByteArray) (v6 : Value) : Prop := wr.ownsRow w.heap.size 9 1 v6 i (strs (pcs s m i)) ∧ Below w.heap.size w wr ∧ (∀ j, bt u j = bt s (i * m + j)) ∧ u.size + i * m = s.size ∧ 1 ≤ u.size
set_option maxRecDepth 100000 in
set_option maxHeartbeats 1600000 in
theorem Cut_ok (s : ByteArray) (m : Nat) (hs : 1 ≤ s.size) (hm1 : 1 ≤ m) (hm : m ≤ 512) (h3 : s.size ≤ 1536) (w : World) :
    Calls Tryz.prog 108 #[.string s, .int .i64 m] w fun e w' => ∃ v p, e = .returned (.tuple #[v, .int .i64 0]) ∧ 1 ≤ p ∧ p ≤ 1536 ∧ (p - 1) * m < s.size ∧ s.size ≤ p * m ∧ w'.ownsRow w.heap.size 9 1 v p (strs (pcs s m p)) ∧ Below w.heap.size w w' := by
  have d0 : decide ((m : Int) < 1) = false := by simp; omega
  have d1 : decide ((65536 : Int) < (m : Int)) = false := by simp; omega
  have q0 : (m : Int) ≤ 512 := by omega
  have q1 : (0 : Int) ≤ (m : Int) := by omega
  have H := hid (And.intro hs (And.intro hm1 (And.intro hm h3)))
  have hA : Hid (CutRel w w s m 0 s (.slice none 0 0)) := ⟨World.ownsRow_nil _ _ _ _, Below.refl _ _, fun j => by rw [Nat.zero_mul, Nat.zero_add], by omega, hs⟩
  clear hs hm1 hm h3
  go_enter Tryz.func108, Tryz.ntmps108
  go_wp2_with fail
  go_loopw [0, 6] (fun v0 v6 wr => ∃ (i : Nat) (u : ByteArray), v0 = .string u ∧ Hid (CutRel w wr s m i u v6)) (fun v0 _ _ => lenOf v0)
  case atStart => exact ⟨0, s, rfl, hA⟩
  case round =>
    obtain ⟨i, u, rfl, hI⟩ := hrel
    have hus : Hid (u.size ≤ 1536) := by show _ ≤ _; have := hI.out.2.2.2.1; have := H.out.2.2.2; omega
    have hi15 : Hid (i ≤ 1536) := by
      show _ ≤ _
      have h1 := hI.out.2.2.2.1
      have h2 := H.out.2.2.2
      have h3 : i * 1 ≤ i * m := Nat.mul_le_mul (Nat.le_refl _) H.out.2.1
      omega
    have q3 : (u.size : Int) ≤ 1536 := by have := hus.out; omega
    by_cases hmu : m < u.size
    · have q4 : (m : Int) < (u.size : Int) := by omega
      have q5 : m ≤ u.size := by omega
      have hpf := pc_front hI.out.2.2.1 q5
      have HPF := hid hpf
      clear hpf
      go_wp2_with (at_builtin; refine wpList_app1 _ rfl (.tmp 20) (.tmp 24) 41 9 (.string ⟨#[]⟩) 16 rfl Tryz.underlying41 info9 rfl (by decide) w.heap.size u6 i (strs (pcs s m i)) rfl (.inl hI.out.1) _ rfl rfl (by have := hi15.out; omega) hI.out.2.1.size ?_; intro v' w4 h5 h6; have H5 := hid h5; have H6 := hid h6; clear h5 h6)
      go_roundw
      case rel =>
        refine ⟨i + 1, _, rfl, ?_, hI.out.2.1.trans H6.out, bt_rest hI.out.2.2.1 q5, ?_, ?_⟩
        · rw [pcs_succ, ← HPF.out]
          exact H5.out
        · rw [ByteArray.size_extract, Nat.add_mul]
          have := hI.out.2.2.2.1
          omega
        · rw [ByteArray.size_extract]; omega
      case measure =>
        simp only [lenOf, ByteArray.size_extract]
        have := H.out.2.1
        omega
    · have q4 : ¬ ((m : Int) < (u.size : Int)) := by omega
      have q5 : u.size ≤ m := by omega
      have q6 : (u.size : Int) ≤ (m : Int) := by omega
      have d7 : u.toList.isEmpty = false := by
        have h1 := hI.out.2.2.2.2
        have h2 : u.data.toList.length = u.size := by rw [Array.length_toList]; rfl
        rw [Lib.toList_data]
        cases hc : u.data.toList with
        | nil => rw [hc] at h2; simp at h2; omega
        | cons a b => rfl
      have hz := hid (zeros_ok (m - u.size) (by have := H.out.2.2.1; omega) wr)
      have e0 : (m : Int) - (u.size : Int) = ((m - u.size : Nat) : Int) := by omega
      have hzs := zeroS_size (m - u.size)
      have HPL := hid (pc_last hI.out.2.2.1 q5)
      go_wp2_with fail
      refine hz.out.mono ?_
      rintro e w2 ⟨rfl, h2⟩
      have HB := hid (hI.out.2.1.trans (h2.mono hI.out.2.1.size))
      have HO : Hid (w2.ownsRow w.heap.size 9 1 u6 i (strs (pcs s m i))) := own_keep hI.out.1 fun k _ hk => h2.block k hk
      clear h2 hz
      go_wp2_with (at_builtin; refine wpList_app1 _ rfl (.tmp 28) (.tmp 36) 41 9 (.string ⟨#[]⟩) 16 rfl Tryz.underlying41 info9 rfl (by decide) w.heap.size u6 i (strs (pcs s m i)) rfl (.inl HO.out) _ rfl rfl (by have := hi15.out; omega) HB.out.size ?_; intro v' w4 h5 h6; have H5 := hid h5; have H6 := hid h6; clear h5 h6)
      go_ret2
      refine ⟨v', i + 1, rfl, by omega, ?_, ?_, ?_, ?_, HB.out.trans H6.out⟩
      · have h1 := hI.out.2.2.2.1
        have h2 := H.out.2.2.2
        have h4 := hI.out.2.2.2.2
        have h3 : i * 1 ≤ i * m := Nat.mul_le_mul (Nat.le_refl _) H.out.2.1
        omega
      · have := hI.out.2.2.2.1
        have h4 := hI.out.2.2.2.2
        rw [Nat.add_sub_cancel]
        omega
      · have := hI.out.2.2.2.1
        rw [Nat.add_mul]
        omega
      · rw [pcs_succ, ← HPL.out]
        exact H5.out
theorem pc_zero (s : ByteArray) (m j : Nat) (h : s.size ≤ j * m) : pc s m j = zeroS m := by
  refine ext_bt (by rw [zeroS_size, pc, mkB_size]) fun x hx => ?_
  rw [pc, bt_mkB, bt_zero]
  split
  · exact bt_ge s _ (by omega)
  · rfl
theorem pad_nil (m : Nat) : padS ⟨#[]⟩ m = zeroS m := by
  refine ext_bt (by rw [padS_size _ _ (by show 0 ≤ m; omega), zeroS_size]) fun x _ => ?_
  unfold padS
  rw [bt_append, bt_zero]
  split
  · exact (bt_ge ⟨#[]⟩ x (Nat.zero_le x)).trans (bt_zero m x).symm
  · exact (bt_zero m x).symm
/-- A text's fragments: three pieces and their sum. -/
def fragsS (s : ByteArray) : List ByteArray := pcs s (longN s.size) 3 ++ [mkB (longN s.size) (xorB (pcs s (longN s.size) 3) (-1) 3)]
/-- Where Encode's loop stands. -/
def EncodeRel (w wr : World) (s : ByteArray) (m p : Nat) (v7 : Value) : Prop := wr.ownsRow w.heap.size 9 1 v7 p (strs (pcs s m p)) ∧ Below w.heap.size w wr ∧ s.size ≤ p * m
set_option maxRecDepth 100000 in
set_option maxHeartbeats 1600000 in
theorem Encode_ok (s : ByteArray) (hs : 1 ≤ s.size) (h3 : s.size ≤ 1536) (w : World) :
    Calls Tryz.prog 50 #[.string s, .int .i64 4] w fun e w' => ∃ v, e = .returned (.tuple #[v, .int .i64 0]) ∧ w'.ownsRow w.heap.size 9 1 v 4 (strs (fragsS s)) ∧ Below w.heap.size w w' := by
  have hc := hid (wide_ok w)
  have hc2 := hid (Long_ok s.size (by omega) w)
  have hm : longN s.size ≤ 512 := by unfold longN; omega
  have hm1 : 1 ≤ longN s.size := by unfold longN; omega
  have hm3 : s.size ≤ 3 * longN s.size := by unfold longN; omega
  have hp3 : ∀ p, (p - 1) * longN s.size < s.size → p ≤ 3 := by
    intro p hp
    rcases Nat.lt_or_ge 3 p with h | h
    · have h4 : 3 * longN s.size ≤ (p - 1) * longN s.size := Nat.mul_le_mul (by omega) (Nat.le_refl _)
      omega
    · exact h
  unfold fragsS
  generalize longN s.size = m at hc2 hm hm1 hm3 hp3
  have hcut := hid (Cut_ok s m hs hm1 hm h3 w)
  have d1 : decide ((65536 : Int) < (s.size : Int)) = false := by simp; omega
  have d2 : decide ((512 : Int) < (m : Int)) = false := by simp; omega
  have q0 : (m : Int) ≤ 512 := by omega
  have q1 : (1 : Int) ≤ (m : Int) := by omega
  have q2 : (s.size : Int) ≤ 1536 := by omega
  have hmx : max (m : Int) 1 = (m : Int) := by omega
  have H := hid (And.intro hs (And.intro hm1 (And.intro hm (And.intro h3 (And.intro hm3 hp3)))))
  clear hs hm1 hm h3 hm3 hp3
  go_enter Tryz.func50, Tryz.ntmps50
  go_wp2_with fail
  refine hc.out.mono ?_
  rintro e w' ⟨rfl, rfl⟩
  clear hc
  go_wp2_with fail
  refine hc2.out.mono ?_
  rintro e w' ⟨rfl, rfl⟩
  clear hc2
  go_wp2_with fail
  refine hcut.out.mono ?_
  rintro e w1 ⟨v1, p1, rfl, k1, k2, k3, k4, k5, k6⟩
  have HC := hid (And.intro k1 (And.intro (H.out.2.2.2.2.2 p1 k3) (And.intro k4 (And.intro k5 k6))))
  clear k1 k2 k3 k4 k5 k6 hcut
  have hpad := hid (Pad_ok ⟨#[]⟩ m (Nat.zero_le _) (by have := H.out.2.2.1; omega) w1)
  rw [pad_nil] at hpad
  go_wp2_with fail
  refine hpad.out.mono ?_
  rintro e w2 ⟨rfl, h2⟩
  have HA : Hid (EncodeRel w w2 s m p1 v1) := ⟨own_keep HC.out.2.2.2.1 fun k _ hk => h2.block k hk, HC.out.2.2.2.2.trans (h2.mono HC.out.2.2.2.2.size), HC.out.2.2.1⟩
  clear h2 hpad
  go_wp2_with fail
  go_loopw [7] (fun v7 wr => ∃ p : Nat, 1 ≤ p ∧ p ≤ 3 ∧ Hid (EncodeRel w wr s m p v7)) (fun v7 _ => 3 - capOf v7)
  case atStart => exact ⟨p1, HC.out.1, HC.out.2.1, HA⟩
  case round =>
    obtain ⟨p, hp1, hp3, hI⟩ := hrel
    obtain ⟨A, c, rfl⟩ := own_form hI.out.1
    by_cases hpl : p < 3
    · have q4 : (p : Int) < 3 := by omega
      have HZ := hid (pc_zero s m p hI.out.2.2)
      go_wp2_with (at_builtin; refine wpList_app1 _ rfl (.tmp 44) (.tmp 46) 41 9 (.string ⟨#[]⟩) 16 rfl Tryz.underlying41 info9 rfl (by decide) w.heap.size _ p (strs (pcs s m p)) rfl (.inl hI.out.1) _ rfl rfl (by omega) hI.out.2.1.size ?_; intro v' w4 h5 h6; have H5 := hid h5; have H6 := hid h6; clear h5 h6)
      go_roundw
      case rel =>
        refine ⟨p + 1, by omega, by omega, ?_, hI.out.2.1.trans H6.out, ?_⟩
        · rw [pcs_succ, HZ.out]
          exact H5.out
        · rw [Nat.add_mul]
          have := hI.out.2.2
          omega
      case measure =>
        obtain ⟨A', c', rfl⟩ := own_form H5.out
        simp only [capOf]
        omega
    · obtain rfl : p = 3 := by omega
      have hal := hid (all_ok (c := c) (pcs s m 3) (-1) (Holds.of_own hI.out.1) H.out.2.2.1 (by rw [pcs_len]; omega) (m := m) (fun k t hk _ => by
        have := List.mem_of_getElem? hk
        simp only [pcs, List.mem_map] at this
        obtain ⟨j, _, rfl⟩ := this
        exact mkB_size _ _))
      rw [pcs_len] at hal
      go_wp2_with fail
      refine hal.out.mono ?_
      rintro e w3 ⟨rfl, h3⟩
      clear hal
      have htx := hid (text_ok (m := m) (by have := h3.1; rw [show anyB (-1) 3 = true from rfl, if_pos rfl] at this; exact this) H.out.2.2.1)
      have HB3 := hid (hI.out.2.1.trans (h3.2.mono hI.out.2.1.size))
      have HO3 : Hid (w3.ownsRow w.heap.size 9 1 (.slice A 3 c) 3 (strs (pcs s m 3))) := own_keep hI.out.1 fun k _ hk => h3.2.block k hk
      clear h3
      go_wp2_with fail
      refine htx.out.mono ?_
      rintro e w4 ⟨rfl, h4⟩
      clear htx
      have HB4 := hid (HB3.out.trans (h4.mono HB3.out.size))
      have HO4 : Hid (w4.ownsRow w.heap.size 9 1 (.slice A 3 c) 3 (strs (pcs s m 3))) := own_keep HO3.out fun k _ hk => h4.block k hk
      clear h4
      go_wp2_with (at_builtin; refine wpList_app1 _ rfl (.tmp 53) (.tmp 56) 41 9 (.string ⟨#[]⟩) 16 rfl Tryz.underlying41 info9 rfl (by decide) w.heap.size _ 3 (strs (pcs s m 3)) rfl (.inl HO4.out) _ rfl rfl (by omega) HB4.out.size ?_; intro v' w5 h5 h6; have H5 := hid h5; have H6 := hid h6; clear h5 h6)
      go_ret2
      refine ⟨v', rfl, ?_, HB4.out.trans H6.out⟩
      have : strs (pcs s m 3 ++ [mkB m (xorB (pcs s m 3) (-1) 3)]) = strs (pcs s m 3) ++ [.string (mkB m (xorB (pcs s m 3) (-1) 3))] := by simp [strs]
      rw [this]
      exact H5.out
end
end Go.Proofs.YtopbojifllnckaaGreatDoor
namespace Go.Proofs.YtopbojifllnckaaGreatDoor
open Go.RowKit
theorem fragsS_len (s : ByteArray) : (fragsS s).length = 4 := by simp [fragsS, pcs]
theorem fragsS_size (s : ByteArray) : ∀ t ∈ fragsS s, t.size = longN s.size := by
  intro t ht
  unfold fragsS at ht
  rw [List.mem_append, List.mem_singleton] at ht
  rcases ht with ht | ht
  · unfold pcs at ht
    rw [List.mem_map] at ht
    obtain ⟨j, _, rfl⟩ := ht
    exact mkB_size _ _
  · rw [ht]
    exact mkB_size _ _
theorem fragsS_eq (s : ByteArray) : fragsS s = [pc s (longN s.size) 0, pc s (longN s.size) 1, pc s (longN s.size) 2, mkB (longN s.size) (fun j => bt (pc s (longN s.size) 0) j ^^^ bt (pc s (longN s.size) 1) j ^^^ bt (pc s (longN s.size) 2) j)] := by
  have h : xorB (pcs s (longN s.size) 3) (-1) 3 = fun j => bt (pc s (longN s.size) 0) j ^^^ bt (pc s (longN s.size) 1) j ^^^ bt (pc s (longN s.size) 2) j := by
    funext j
    simp [xorB, pcs, List.range_succ]
  unfold fragsS
  rw [h]
  simp [pcs, List.range_succ]
theorem bt_pc_ge (s : ByteArray) (m i j : Nat) (h : m ≤ j) : bt (pc s m i) j = 0 := bt_ge _ _ (by rw [pc, mkB_size]; exact h)
theorem x3a (x y z : UInt8) : y ^^^ z ^^^ (x ^^^ y ^^^ z) = x := by
  have h : y ^^^ z ^^^ (x ^^^ y ^^^ z) = x ^^^ ((y ^^^ y) ^^^ (z ^^^ z)) := by ac_rfl
  rw [h]
  simp
theorem x3b (x y z : UInt8) : x ^^^ z ^^^ (x ^^^ y ^^^ z) = y := by
  have h : x ^^^ z ^^^ (x ^^^ y ^^^ z) = y ^^^ ((x ^^^ x) ^^^ (z ^^^ z)) := by ac_rfl
  rw [h]
  simp
theorem x3c (x y z : UInt8) : x ^^^ y ^^^ (x ^^^ y ^^^ z) = z := by
  have h : x ^^^ y ^^^ (x ^^^ y ^^^ z) = z ^^^ ((x ^^^ x) ^^^ (y ^^^ y)) := by ac_rfl
  rw [h]
  simp
theorem mkB_of {t : ByteArray} {m : Nat} {F : Nat → UInt8} (ht : t.size = m) (h : ∀ j, j < m → F j = bt t j) : mkB m F = t := by
  rw [mkB_congr h, ← ht, mkB_bt]
/-- What is missing is the sum of the others. -/
theorem give_back (s : ByteArray) (l : List ByteArray) (i : Nat) (hl : l.length = 4) (hi : i < 4) (h : ∀ k, k < 4 → k ≠ i → l[k]? = (fragsS s)[k]?) : some (mkB (longN s.size) (xorB l i 4)) = (fragsS s)[i]? := by
  obtain ⟨a, b, c, d, rfl⟩ : ∃ a b c d, l = [a, b, c, d] := by
    match l, hl with
    | [a, b, c, d], _ => exact ⟨a, b, c, d, rfl⟩
  have hm : ∀ k, (pc s (longN s.size) k).size = longN s.size := fun k => mkB_size _ _
  rw [fragsS_eq] at h ⊢
  generalize longN s.size = m at h hm
  rcases (show i = 0 ∨ i = 1 ∨ i = 2 ∨ i = 3 by omega) with rfl | rfl | rfl | rfl
  · have h1 := h 1 (by omega) (by omega)
    have h2 := h 2 (by omega) (by omega)
    have h3 := h 3 (by omega) (by omega)
    simp only [List.getElem?_cons_succ, List.getElem?_cons_zero, Option.some.injEq] at h1 h2 h3 ⊢
    subst h1 h2 h3
    refine mkB_of (hm 0) fun j hj => ?_
    simp only [xorB, List.getD_cons_succ, List.getD_cons_zero, bt_mkB, hj, if_true]
    simp [x3a]
  · have h1 := h 0 (by omega) (by omega)
    have h2 := h 2 (by omega) (by omega)
    have h3 := h 3 (by omega) (by omega)
    simp only [List.getElem?_cons_succ, List.getElem?_cons_zero, Option.some.injEq] at h1 h2 h3 ⊢
    subst h1 h2 h3
    refine mkB_of (hm 1) fun j hj => ?_
    simp only [xorB, List.getD_cons_succ, List.getD_cons_zero, bt_mkB, hj, if_true]
    simp [x3b]
  · have h1 := h 0 (by omega) (by omega)
    have h2 := h 1 (by omega) (by omega)
    have h3 := h 3 (by omega) (by omega)
    simp only [List.getElem?_cons_succ, List.getElem?_cons_zero, Option.some.injEq] at h1 h2 h3 ⊢
    subst h1 h2 h3
    refine mkB_of (hm 2) fun j hj => ?_
    simp only [xorB, List.getD_cons_succ, List.getD_cons_zero, bt_mkB, hj, if_true]
    simp [x3c]
  · have h1 := h 0 (by omega) (by omega)
    have h2 := h 1 (by omega) (by omega)
    have h3 := h 2 (by omega) (by omega)
    simp only [List.getElem?_cons_succ, List.getElem?_cons_zero, Option.some.injEq] at h1 h2 h3 ⊢
    subst h1 h2 h3
    refine mkB_congr fun j hj => ?_
    simp [xorB]
/-- The parity is right. -/
theorem right_sum (s : ByteArray) (j : Nat) : xorB (fragsS s) (-1) 4 j = 0 := by
  rw [fragsS_eq]
  simp only [xorB, List.getD_cons_succ, List.getD_cons_zero, bt_mkB]
  by_cases hj : j < longN s.size
  · simp [hj]
  · simp [hj, bt_pc_ge _ _ _ _ (Nat.le_of_not_lt hj)]
theorem pcs_flat (s : ByteArray) (m : Nat) : ∀ p, ((pcs s m p).map (·.data.toList)).flatten = (List.range (p * m)).map (bt s)
  | 0 => by simp [pcs]
  | p + 1 => by
    have e : pcs s m (p + 1) = pcs s m p ++ [pc s m p] := by simp [pcs, List.range_succ]
    rw [e, List.map_append, List.flatten_append, pcs_flat s m p, Nat.add_mul, Nat.one_mul, List.range_add, List.map_append]
    simp [pc, mkB, List.map_map, Function.comp_def]
/-- The fragments give the text back. -/
theorem join_back (s : ByteArray) (h : s.size ≤ 3 * longN s.size) : (⟨(((fragsS s).map (·.data.toList)).flatten.take s.size).toArray⟩ : ByteArray) = s := by
  unfold fragsS
  rw [List.map_append, List.flatten_append, pcs_flat, List.take_append_of_le_length (by simpa using h), ← List.map_take, List.take_range, Nat.min_eq_left h]
  exact mkB_bt s
theorem long3 (n : Nat) : n ≤ 3 * longN n := by unfold longN; omega
end Go.Proofs.YtopbojifllnckaaGreatDoor
namespace Go.Proofs.YtopbojifllnckaaGreatDoor
open Go.RowKit
attribute [local irreducible] wpQuiet
section
variable {w w' : World} {A : Option Addr} {c : Nat}
theorem load225 {b : Nat} {F : Nat → UInt8} {n : Int} (h : SumAt w b F n) : ∃ cs : Array Value, (Instr.loadAt 225 (.pointer (some ⟨b, 0, none⟩))).run Tryz.prog w = .ok (.agg cs) w ∧ cs.size = 513 ∧ (∀ j, j < 512 → cs[j]? = some (.int .u8 (F j).toNat)) ∧ cs[512]? = some (.int .i64 n) := by
  obtain ⟨cs, h1, h2, h3, h4⟩ := h
  refine ⟨cs, ?_, h2, h3, h4⟩
  have hl : (loadCells ⟨b, 0, none⟩ cs.toList.length).run Tryz.prog w = .ok cs.toList.toArray w :=
    run_loadCells_list (P := Tryz.prog) w ⟨b, 0, none⟩ cs.toList (fun j v hv => by rw [add_plain, h1.cell]; simpa using hv)
  rw [Array.length_toList, h2, Array.toArray_toList] at hl
  have ha : (isAgg 225).run Tryz.prog w = .ok true w := by kernel_rfl
  have hs : (sizeOf 225).run Tryz.prog w = .ok 513 w := by kernel_rfl
  simp only [Instr.loadAt, Instr.sureAddr, Sem.run_bind, Sem.run_pure, Result.andThen_ok, loadVar, ha, if_true, hs, hl]
def sumV (m : Int) : List AV := List.replicate 512 (.int .u8 0) ++ [.int .i64 m]
theorem sumV_eq (m : Int) : aggEq Tryz.prog 225 (sumV m) (sumV m) = (match m == m with | true => some true | false => some false) := by kernel_rfl
theorem concs_rep (E : Env) (n : Nat) (l : List AV) (cl : List Value) (h : concs E l = some cl) : concs E (List.replicate n (.int .u8 0) ++ l) = some (List.replicate n (.int .u8 0) ++ cl) := by
  induction n with
  | zero => simpa using h
  | succ n ih =>
    rw [List.replicate_succ, List.replicate_succ, List.cons_append, List.cons_append]
    simp [concs, conc, ih]
theorem eq225 (w : World) (op : BinOp) (x y : Operand) (m : Int) (cs ds : Array Value) (hc : cs.toList = List.replicate 512 (.int .u8 0) ++ [.int .i64 m]) (hd : ds = cs) :
    (Op.equalIn 10000 225 (.agg cs) (.agg ds)).run Tryz.prog w = .ok true w ∧ (eqGuard op 225 x y (.agg cs) (.agg ds)).run Tryz.prog w = .ok () w := by
  subst hd
  have e : ds = (List.replicate 512 (Value.int .u8 0) ++ [Value.int .i64 m]).toArray := by rw [← hc]
  rw [e]
  have hq : concs (fun _ => none) (sumV m) = some (List.replicate 512 (.int .u8 0) ++ [.int .i64 m]) := concs_rep _ 512 _ _ rfl
  refine aggEq_run (E := fun _ => none) (xs := sumV m) (ys := sumV m) ?_ hq hq
  rw [sumV_eq, beq_self_eq_true]
theorem sum_list {cs : Array Value} {m K : Nat} (h1 : cs.size = K + 1) (h2 : ∀ j, j < K → cs[j]? = some (.int .u8 0)) (h3 : cs[K]? = some (.int .i64 m)) : cs.toList = List.replicate K (.int .u8 0) ++ [.int .i64 m] := by
  refine List.ext_getElem? fun j => ?_
  rw [Array.getElem?_toList]
  by_cases hj : j < K
  · rw [h2 j hj, List.getElem?_append_left (by rw [List.length_replicate]; exact hj), List.getElem?_replicate, if_pos hj]
  · rw [List.getElem?_append_right (by rw [List.length_replicate]; omega), List.length_replicate]
    by_cases e : j = K
    · subst e
      rw [h3, Nat.sub_self]
      rfl
    · rw [Array.getElem?_eq_none (by omega), List.getElem?_eq_none (by rw [List.length_singleton]; omega)]
theorem built225 (m : Int) : (Tryz.zeroCells225.setIfInBounds 512 (.int .i64 m)).toList = List.replicate 512 (.int .u8 0) ++ [.int .i64 m] := by
  rw [zc225, Array.toList_setIfInBounds, Array.toList_append, Array.toList_replicate, List.set_append_right _ _ (by rw [List.length_replicate]; exact Nat.le_refl _), List.length_replicate, Nat.sub_self]
  rfl
theorem wpStill_val {P : Program} {ops : Array Oper} {w : World} {Q : Act → Prop} {a : Act} {o : Oper} {rest : List Oper} {v : Value} (hw : Region.wanted o (yielded ops a.tmps) = true) (hv : (execOp a.eval o).run P w = .ok (.value v) w) (h : wpStill P ops w Q rest (a.put o.dst v)) : wpStill P ops w Q (o :: rest) a := by
  unfold wpStill
  rw [if_pos hw]
  unfold Oper.still
  rw [hv, Oper.stillUpon_value]
  exact h
set_option maxRecDepth 100000 in
set_option maxHeartbeats 1600000 in
theorem Right_ok {m : Nat} (l : List ByteArray) (hh : Holds w w.heap.size A (strs l)) (hl : l.length = 4) (hm : m ≤ 512) (hs : ∀ t ∈ l, t.size = m) (hx : ∀ j, xorB l (-1) 4 j = 0) :
    Calls Tryz.prog 65 #[.slice A 4 c] w fun e w' => e = .returned (.bool true) ∧ Below w.heap.size w w' := by
  have hc := hid (wide_ok w)
  have hall := all_ok (c := c) l (-1) hh hm (by omega) (fun k t hk _ => hs t (List.mem_of_getElem? hk))
  rw [hl] at hall
  have HALL := hid hall
  have HX := hid hx
  clear hh hl hm hs hx hall
  go_enter Tryz.func65, Tryz.ntmps65
  go_wp2_with fail
  refine hc.out.mono ?_
  rintro e w' ⟨rfl, rfl⟩
  go_wp2_with fail
  refine HALL.out.mono ?_
  rintro e w1 ⟨rfl, h1, h2⟩
  have e : (if anyB (-1) 4 then (m : Int) else 0) = m := by rw [if_pos (anyB_four _)]
  rw [e] at h1
  obtain ⟨cs, hld0, g1, g2, g3⟩ := load225 (w := w1.drew) (h1.below (B := w1.heap.size) (Below.refl _ _).drew h1.lt)
  have hld : (Instr.loadAt 225 (.pointer (some ⟨w.heap.size, 0, none⟩))).run Tryz.prog { heap := w1.heap, tape := w1.tape, drawn := w1.drawn + 1, os := w1.os, output := w1.output } = .ok (.agg cs) { heap := w1.heap, tape := w1.tape, drawn := w1.drawn + 1, os := w1.os, output := w1.output } := hld0
  have hcs := sum_list g1 (fun j hj => by rw [g2 j hj, HX.out j]; rfl) g3
  have e5 : w1.cell? ⟨w.heap.size, 512, none⟩ = some (.int .i64 m) := h1.len
  have hl1 : w.heap.size < w1.heap.size := h1.lt
  have HCS := hid (And.intro hcs h2)
  clear h1 h2 g1 g2 g3 hcs e HALL HX hc hld0
  go_upto_region 4 with (fail)
  go_still_tail 12, (by kernel_rfl)
  refine wpStill_val (v := .agg cs) (by rfl) (by show Sem.run Tryz.prog (do pure (Next.value (← Instr.loadAt 225 (.pointer (some ⟨w.heap.size, 0, none⟩))))) _ = _; rw [Sem.run_bind, hld]; rfl) ?_
  repeat still_step
  have hds : Tryz.zeroCells225.setIfInBounds 512 (.int .i64 m) = cs := by
    apply Array.ext'
    rw [built225, HCS.out.1]
  obtain ⟨q1, q2⟩ := eq225 { heap := w1.heap, tape := w1.tape, drawn := w1.drawn + 1, os := w1.os, output := w1.output } .eql (.tmp 18) (.tmp 23) m cs _ HCS.out.1 hds
  refine wpStill_val (v := .bool true) (by rfl) (by
    show Sem.run Tryz.prog (do pure (Next.value (← (do eqGuard .eql 225 (.tmp 18) (.tmp 23) (.agg cs) (.agg (Tryz.zeroCells225.setIfInBounds 512 (.int .i64 m))); binOp .eql 225 (.agg cs) (.agg (Tryz.zeroCells225.setIfInBounds 512 (.int .i64 m))))))) _ = _
    rw [Sem.run_bind, Sem.run_bind, q2]
    simp only [Result.andThen_ok]
    rw [show binOp .eql 225 (.agg cs) (.agg (Tryz.zeroCells225.setIfInBounds 512 (.int .i64 m))) = (do pure (.bool (← Op.equalIn 10000 225 (.agg cs) (.agg (Tryz.zeroCells225.setIfInBounds 512 (.int .i64 m))))) : Sem Value) from rfl, Sem.run_bind, q1]
    rfl) ?_
  clear q1 q2 hds hld e5
  repeat still_step
  refine wpStill_nil ?_
  go_wp2_with fail
  go_ret
  exact ⟨rfl, HCS.out.2.drew⟩
end
end Go.Proofs.YtopbojifllnckaaGreatDoor
