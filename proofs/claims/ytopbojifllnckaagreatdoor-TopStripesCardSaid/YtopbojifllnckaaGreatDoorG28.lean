/- parity: wide, Long, add, text. parity: all. parity: Give, Join. -/
import Derived.Laws.BitsAllLaws
import Derived.Test.YtopbojifllnckaaGreatDoorG27
namespace Go.Proofs.YtopbojifllnckaaGreatDoor
open Go.RowKit
attribute [local irreducible] wpQuiet
set_option maxRecDepth 100000 in
theorem wide_ok (w : World) : Calls Tryz.prog 106 #[.int .i64 4] w fun e w' => e = .returned (.bool true) ∧ w = w' := by
  go_enter Tryz.func106, Tryz.ntmps106
  go_wp2_with fail
  go_ret
  exact ⟨rfl, rfl⟩
/-- How long a piece is. -/
def longN (n : Nat) : Nat := (n + 2) / 3
set_option maxRecDepth 100000 in
theorem Long_ok (n : Nat) (hn : n ≤ 65536) (w : World) : Calls Tryz.prog 107 #[.int .i64 n, .int .i64 4] w fun e w' => e = .returned (.int .i64 (longN n)) ∧ w = w' := by
  have d0 : decide ((n : Int) < 0) = false := by simp
  have d1 : decide ((65536 : Int) < (n : Int)) = false := by simp; omega
  have q1 : (n : Int) ≤ 65536 := by omega
  have q0 : (0 : Int) ≤ (n : Int) := by omega
  have hq : ((n : Int) + 4 - 2) / 3 = (longN n : Int) := by unfold longN; omega
  have hc := hid (wide_ok w)
  clear hn
  go_enter Tryz.func107, Tryz.ntmps107
  go_wp2_with fail
  refine hc.out.mono ?_
  rintro e w' ⟨rfl, rfl⟩
  clear hc
  go_wp2_with fail
  go_ret
  exact ⟨by rw [← hq]; first | done | rfl, rfl⟩
/-- A text's byte; nothing stands behind its end. -/
def bt (t : ByteArray) (j : Nat) : UInt8 := t.data.toList.getD j 0
theorem bt_lt (t : ByteArray) (j : Nat) (h : j < t.size) : t.data[j]? = some (bt t j) := by
  unfold bt
  rw [List.getD_eq_getElem?_getD, Array.getElem?_toList]
  have : j < t.data.size := h
  rw [Array.getElem?_eq_getElem this]
  rfl
theorem bt_ge (t : ByteArray) (j : Nat) (h : t.size ≤ j) : bt t j = 0 := by
  unfold bt
  rw [List.getD_eq_getElem?_getD, Array.getElem?_toList]
  rw [Array.getElem?_eq_none h]
  rfl
theorem bt_get (t : ByteArray) (j : Nat) (h : j < t.size) : bt t j = t[j] := by
  have h1 := bt_lt t j h
  have h2 : t.data[j]? = some (t.data[j]'h) := Array.getElem?_eq_getElem h
  rw [h2] at h1
  exact (Option.some.inj h1).symm
theorem xor8 (a b : UInt8) : bits .xor .u8 (a.toNat : Int) (b.toNat : Int) = ((a ^^^ b).toNat : Int) := by
  rw [u8_xor_nat _ _ a.toNat_lt b.toNat_lt, UInt8.toNat_xor]
attribute [local go_sem] xor8
/-- A sum in block b: its bytes, how many count. -/
def SumAt (w : World) (b : Nat) (F : Nat → UInt8) (n : Int) : Prop := ∃ cs : Array Value, Blk w b 225 cs ∧ cs.size = 513 ∧ (∀ j, j < 512 → cs[j]? = some (.int .u8 (F j).toNat)) ∧ cs[512]? = some (.int .i64 n)
section
variable {w w' : World} {b : Nat} {F : Nat → UInt8} {n : Int}
theorem SumAt.num (h : SumAt w b F n) (m : Int) : SumAt (w.setCell ⟨b, 512, none⟩ (.int .i64 m)) b F m := by
  obtain ⟨cs, h1, h2, h3, h4⟩ := h
  refine ⟨_, h1.set_ 512 (.int .i64 m), by simpa using h2, fun j hj => ?_, ?_⟩
  · rw [Array.getElem?_setIfInBounds_ne (by omega)]; exact h3 j hj
  · rw [Array.getElem?_setIfInBounds_self_of_lt (by omega)]
theorem SumAt.byte (h : SumAt w b F n) {i : Nat} (hi : i < 512) (x : UInt8) : SumAt (w.setCell ⟨b, i, none⟩ (.int .u8 x.toNat)) b (fun j => if j = i then x else F j) n := by
  obtain ⟨cs, h1, h2, h3, h4⟩ := h
  refine ⟨_, h1.set_ i _, by simpa using h2, fun j hj => ?_, ?_⟩
  · by_cases hji : j = i
    · subst hji
      rw [Array.getElem?_setIfInBounds_self_of_lt (by omega)]
      simp
    · rw [Array.getElem?_setIfInBounds_ne (by omega), h3 j hj]; exact congrArg (fun z : UInt8 => some (Value.int .u8 z.toNat)) (if_neg hji).symm
  · rw [Array.getElem?_setIfInBounds_ne (by omega)]; exact h4
theorem SumAt.cell (h : SumAt w b F n) {i : Nat} (hi : i < 512) : w.cell? ⟨b, i, none⟩ = some (.int .u8 (F i).toNat) := by
  obtain ⟨cs, h1, h2, h3, h4⟩ := h
  exact (h1.cell i).trans (h3 i hi)
theorem SumAt.len (h : SumAt w b F n) : w.cell? ⟨b, 512, none⟩ = some (.int .i64 n) := by
  obtain ⟨cs, h1, h2, h3, h4⟩ := h
  exact (h1.cell 512).trans h4
theorem SumAt.frozen (h : SumAt w b F n) (i : Nat) : w.frozen? ⟨b, i, none⟩ = false := by
  obtain ⟨cs, h1, _⟩ := h
  exact h1.frozen i
theorem SumAt.lt (h : SumAt w b F n) : b < w.heap.size := by
  obtain ⟨cs, h1, _⟩ := h
  exact h1.lt
theorem SumAt.congr (h : SumAt w b F n) {G : Nat → UInt8} (hG : ∀ j, j < 512 → G j = F j) : SumAt w b G n := by
  obtain ⟨cs, h1, h2, h3, h4⟩ := h
  exact ⟨cs, h1, h2, fun j hj => by rw [hG j hj]; exact h3 j hj, h4⟩
theorem SumAt.below {B : Nat} (h : SumAt w b F n) (hb : Below B w w') (hg : b < B) : SumAt w' b F n := by
  obtain ⟨cs, h1, h2⟩ := h
  exact ⟨cs, h1.below hb hg, h2⟩
/-- Where add's loop stands. -/
def AddRel (w wr : World) (b : Nat) (F : Nat → UInt8) (t : ByteArray) (i : Nat) : Prop := SumAt wr b (fun j => if j < i then F j ^^^ bt t j else F j) t.size ∧ Only (fun k => k = b) w wr
set_option maxRecDepth 100000 in
set_option maxHeartbeats 1600000 in
theorem add_ok (h : SumAt w b F n) (t : ByteArray) (ht : t.size ≤ 512) (first : Bool) (hf : first = false → n = t.size) :
    Calls Tryz.prog 177 #[.pointer (some ⟨b, 0, none⟩), .string t, .bool first] w fun e w' => e = .returned (.bool true) ∧ SumAt w' b (fun j => F j ^^^ bt t j) t.size ∧ Only (fun k => k = b) w w' := by
  have e0 := h.len
  have f0 := h.frozen 512
  have hbl := h.lt
  have d0 : decide ((512 : Int) < (t.size : Int)) = false := by simp; omega
  have q0 : (t.size : Int) ≤ 512 := by omega
  have hA : Hid (AddRel w (w.setCell ⟨b, 512, none⟩ (.int .i64 t.size)) b F t 0) := ⟨(h.num _).congr fun j _ => by simp, Only.setCell (S := fun k => k = b) (p := ⟨b, 512, none⟩) (Only.refl _ _) (.inl rfl) _⟩
  have HT := hid ht
  clear ht h
  have hn : first = true ∨ (first = false ∧ n = t.size) := by cases first <;> simp_all
  clear hf
  rcases hn with rfl | ⟨rfl, rfl⟩
  all_goals
    go_enter Tryz.func177, Tryz.ntmps177
    go_wp2_with fail
    go_loopw [7, 33] (fun _ v33 wr => ∃ i : Nat, i ≤ t.size ∧ v33 = .int .i64 i ∧ Hid (AddRel w wr b F t i)) (fun _ v33 _ => t.size - (intOf v33).toNat)
    case atStart => exact ⟨0, Nat.zero_le _, rfl, hA⟩
    case round =>
      obtain ⟨i, hi, rfl, hI⟩ := hrel
      by_cases hik : i < t.size
      · have hi5 : i < 512 := by have := HT.out; omega
        have e1 := hI.out.1.cell hi5
        have f1 := hI.out.1.frozen i
        have hbl1 := hI.out.1.lt
        have q3 : (i : Int) < 512 := by omega
        have q4 : (0 : Int) ≤ (i : Int) := by omega
        have q5 : (i : Int) < (t.size : Int) := by omega
        simp only [Nat.lt_irrefl, if_false] at e1
        go_upto_region 7 with (fail)
        go_still_tail 13, (by kernel_rfl)
        change wpList _ _ _ _ _ (wr.drewN 1)
        have hX : Hid (AddRel w ((wr.drewN 1).setCell ⟨b, i, none⟩ (.int .u8 ((F i ^^^ t[i]).toNat))) b F t (i + 1)) := by
          refine ⟨(SumAt.byte (w := wr.drewN 1) (hI.out.1.below (Below.refl _ _).drew hI.out.1.lt) hi5 (F i ^^^ t[i])).congr fun j _ => ?_, Only.setCell (S := fun k => k = b) (p := ⟨b, i, none⟩) (hI.out.2.drewN 1) (.inl rfl) _⟩
          by_cases hji : j = i
          · subst hji
            simp [bt_get t j hik]
          · simp only [hji, if_false]
            by_cases hlt : j < i
            · rw [if_pos hlt, if_pos (by omega)]
            · rw [if_neg hlt, if_neg (by omega)]
        clear hI
        go_wp2_with fail
        go_roundw
        case rel => exact ⟨i + 1, by omega, by go_num, hX⟩
        case measure => simp [intOf]; omega
      · obtain rfl : i = t.size := by omega
        go_wp2_with fail
        go_ret
        exact ⟨rfl, hI.out.1.congr fun j _ => (by
          by_cases hlt : j < t.size
          · rw [if_pos hlt]
          · rw [if_neg hlt, bt_ge t j (by omega)]; simp), hI.out.2⟩
/-- The bytes that a row of bytes makes. -/
def mkB (n : Nat) (F : Nat → UInt8) : ByteArray := ⟨((List.range n).map F).toArray⟩
theorem mkB_size (n : Nat) (F : Nat → UInt8) : (mkB n F).size = n := by simp [mkB, ByteArray.size]
theorem bt_mkB (n : Nat) (F : Nat → UInt8) (j : Nat) : bt (mkB n F) j = if j < n then F j else 0 := by
  unfold bt mkB
  rw [List.getD_eq_getElem?_getD]
  simp only [List.getElem?_map]
  by_cases h : j < n
  · rw [if_pos h, List.getElem?_range h]; rfl
  · rw [if_neg h, List.getElem?_eq_none (by simp; omega)]; rfl
theorem ext_bt {s t : ByteArray} (hn : s.size = t.size) (h : ∀ j, j < s.size → bt s j = bt t j) : s = t := by
  have : s.data = t.data := by
    refine Array.ext hn fun j h1 h2 => ?_
    have a1 := bt_lt s j h1
    have a2 := bt_lt t j h2
    rw [Array.getElem?_eq_getElem h1, h j h1] at a1
    rw [Array.getElem?_eq_getElem h2] at a2
    exact (Option.some.inj a1).trans (Option.some.inj a2).symm
  cases s; cases t; cases this; rfl
theorem mkB_congr {n : Nat} {F G : Nat → UInt8} (h : ∀ j, j < n → F j = G j) : mkB n F = mkB n G := by
  unfold mkB
  congr 2
  exact List.map_congr_left fun j hj => h j (by simpa using hj)
theorem mkB_bt (t : ByteArray) : mkB t.size (bt t) = t := ext_bt (mkB_size _ _) fun j hj => by
  rw [mkB_size] at hj
  rw [bt_mkB, if_pos hj]
set_option maxRecDepth 100000 in
theorem text_ok {m : Nat} (h : SumAt w b F m) (hm : m ≤ 512) : Calls Tryz.prog 111 #[.pointer (some ⟨b, 0, none⟩)] w fun e w' => e = .returned (.string (mkB m F)) ∧ Below w.heap.size w w' := by
  have e0 := h.len
  have hbl := h.lt
  have q0 : (m : Int) ≤ 512 := by omega
  have q1 : (0 : Int) ≤ (m : Int) := by omega
  have q2 : m ≤ 512 := hm
  have H := hid h
  clear h hm
  go_enter Tryz.func111, Tryz.ntmps111
  have hcv : (convert 172 9 (.slice (some ⟨b, 0, none⟩) m 512)).run Tryz.prog w.drew = .ok (.string (mkB m F)) w.drew := by
    have := run_convert_bytes_back (P := Tryz.prog) w.drew 172 9 5 ⟨b, 0, none⟩ 512 ((List.range m).map F) Tryz.underlying172 Tryz.underlying5 Tryz.underlying9 (fun j hj => by
      have hjm : j < m := by simpa using hj
      rw [add_plain]
      simp only [List.getElem_map, List.getElem_range]
      exact H.out.cell (by omega))
    simp only [List.length_map, List.length_range] at this
    exact this
  have hD : Hid (Below w.heap.size w w.drew) := (Below.refl _ _).drew
  go_upto_region 1 with (fail)
  go_region
  all_goals
    go_wp2_with fail
    go_ret
    exact ⟨rfl, hD.out⟩
end
end Go.Proofs.YtopbojifllnckaaGreatDoor
namespace Go.Proofs.YtopbojifllnckaaGreatDoor
open Go.RowKit
attribute [local irreducible] wpQuiet
/-- The sum of the texts ahead of k, but one. -/
def xorB (l : List ByteArray) (but : Int) : Nat → Nat → UInt8
  | 0, _ => 0
  | k + 1, j => if (k : Int) = but then xorB l but k j else xorB l but k j ^^^ bt (l.getD k ⟨#[]⟩) j
/-- Was one ahead of k taken? -/
def anyB (but : Int) : Nat → Bool
  | 0 => false
  | k + 1 => anyB but k || !decide ((k : Int) = but)
theorem zc225 : Tryz.zeroCells225 = Array.replicate 512 (.int .u8 0) ++ #[.int .i64 0] := by kernel_rfl
theorem xorB_skip (l : List ByteArray) (but : Int) (i : Nat) (h : (i : Int) = but) : xorB l but (i + 1) = xorB l but i := funext fun j => by simp [xorB, h]
theorem anyB_skip (but : Int) (i : Nat) (h : (i : Int) = but) : anyB but (i + 1) = anyB but i := by simp [anyB, h]
section
variable {w w' : World} {b : Nat} {F : Nat → UInt8} {n : Int}
theorem SumAt.only {S : Nat → Prop} (h : SumAt w b F n) (ho : Only S w w') (hb : ¬ S b) : SumAt w' b F n := by
  obtain ⟨cs, h1, h2⟩ := h
  exact ⟨cs, h1.only ho hb, h2⟩
/-- Where all's loop stands. -/
def AllRel (w wr : World) (l : List ByteArray) (but : Int) (m i : Nat) : Prop := SumAt wr w.heap.size (xorB l but i) (if anyB but i then m else 0) ∧ Below w.heap.size w wr
set_option maxRecDepth 100000 in
set_option maxHeartbeats 1600000 in
theorem all_ok {A : Option Addr} {c m : Nat} (l : List ByteArray) (but : Int) (hh : Holds w w.heap.size A (strs l)) (hm : m ≤ 512) (hl : l.length ≤ 8) (hs : ∀ (k : Nat) t, l[k]? = some t → (k : Int) ≠ but → t.size = m) :
    Calls Tryz.prog 110 #[.slice A l.length c, .int .i64 but] w fun e w' => e = .returned (.tuple #[.pointer (some ⟨w.heap.size, 0, none⟩), .bool true]) ∧ AllRel w w' l but m l.length := by
  have q0 : (l.length : Int) ≤ 8 := by omega
  obtain ⟨W, hW⟩ : ∃ W, W = w.alloc (.cells (Array.replicate 512 (.int .u8 0) ++ #[.int .i64 0]) 225) := ⟨_, rfl⟩
  have hA : Hid (AllRel w W l but m 0) := by
    refine ⟨⟨_, by rw [hW]; exact Blk.new w 225 _, by simp, fun j hj => ?_, ?_⟩, by rw [hW]; exact (Below.refl _ _).alloc (Nat.le_refl _) _⟩
    · rw [Array.getElem?_append_left (by simpa using hj)]
      simp [hj, xorB]
    · rw [Array.getElem?_append_right (by simp)]
      simp [anyB]
  have H := hid (And.intro hh (And.intro hm (And.intro hl hs)))
  have HW := hid hW
  clear hh hm hl hs hW
  go_enter Tryz.func110, Tryz.ntmps110
  go_wp2_with fail
  go_loopw [7, 8, 9, 14] (fun v7 _ _ v14 wr => ∃ i : Nat, i ≤ l.length ∧ v14 = .int .i64 i ∧ v7 = .bool (!anyB but i) ∧ Hid (AllRel w wr l but m i)) (fun _ _ _ v14 _ => l.length - (intOf v14).toNat)
  case atStart =>
    refine ⟨0, Nat.zero_le _, rfl, rfl, ?_⟩
    rw [zc225, ← HW.out]
    exact hA
  case round =>
    obtain ⟨i, hi, rfl, rfl, hI⟩ := hrel
    by_cases hik : i < l.length
    · obtain ⟨t, ht⟩ : ∃ t, l[i]? = some t := ⟨_, List.getElem?_eq_getElem hik⟩
      obtain ⟨ad, rfl, hab, hcs⟩ := H.out.1 (by rw [strs_length]; omega)
      have e1 : wr.cell? (ad.add i) = some (.string t) := (World.cell?_of_block (hI.out.2.block _ (by rw [block_add]; exact hab))).trans (hcs i _ (by simp [strs, ht]))
      have q1 : (i : Int) < (l.length : Int) := by omega
      have q2 : (0 : Int) ≤ (i : Int) := by omega
      have hgl : w.heap.size < wr.heap.size := hI.out.1.lt
      have HT := hid ht
      clear ht hab hcs
      by_cases hbut : (i : Int) = but
      · have d1 : ((i : Int) == but) = true := by simp [hbut]
        have hX : Hid (AllRel w wr l but m (i + 1) ∧ (!anyB but (i + 1)) = (!anyB but i)) := ⟨by unfold AllRel; rw [xorB_skip l but i hbut, anyB_skip but i hbut]; exact hI.out, by rw [anyB_skip but i hbut]⟩
        have HB := hid hbut
        clear hbut
        go_wp2_with fail
        go_roundw
        case rel => exact ⟨i + 1, by omega, by go_num, by rw [hX.out.2], hX.out.1⟩
        case measure => simp [intOf]; omega
      · have d1 : ((i : Int) == but) = false := by simp [hbut]
        have hsz := H.out.2.2.2 i t HT.out hbut
        have hcall := hid (add_ok hI.out.1 t (by rw [hsz]; exact H.out.2.1) (!anyB but i) (fun hf => by rw [hsz]; simp at hf; simp [hf]))
        have HB := hid hbut
        have HS := hid hsz
        clear hbut hsz
        go_wp2_with fail
        refine hcall.out.mono ?_
        rintro e w2 ⟨rfl, h1, h2⟩
        have hX : Hid (AllRel w w2 l but m (i + 1)) := by
          refine ⟨?_, hI.out.2.trans (h2.below hI.out.2.size (fun k hk e => by omega))⟩
          have : anyB but (i + 1) = true := by simp [anyB, HB.out]
          rw [this, if_pos rfl]
          rw [HS.out] at h1
          refine h1.congr fun j _ => ?_
          simp [xorB, HB.out, HT.out]
        clear h1 h2 hI hcall
        go_wp2_with fail
        go_roundw
        case rel => exact ⟨i + 1, by omega, by go_num, by simp [anyB, HB.out], hX⟩
        case measure => simp [intOf]; omega
    · obtain rfl : i = l.length := by omega
      go_wp2_with fail
      go_ret2
      exact ⟨rfl, hI⟩
end
end Go.Proofs.YtopbojifllnckaaGreatDoor
namespace Go.Proofs.YtopbojifllnckaaGreatDoor
open Go.RowKit
attribute [local irreducible] wpQuiet
theorem anyB_four (but : Int) : anyB but 4 = true := by
  simp only [anyB, Bool.false_or, Bool.or_eq_true, Bool.not_eq_true', decide_eq_false_iff_not]
  omega
theorem cat_len (m : Nat) : ∀ (l : List ByteArray), (∀ t ∈ l, t.size = m) → (l.map (·.data.toList)).flatten.length = l.length * m
  | [], _ => by simp
  | t :: l, h => by
    rw [List.map_cons, List.flatten_cons, List.length_append, cat_len m l (fun u hu => h u (List.mem_cons_of_mem _ hu)), List.length_cons]
    have : t.data.toList.length = m := h t (List.mem_cons_self ..)
    rw [this, Nat.add_mul]
    omega
section
variable {w w' : World} {A : Option Addr} {c : Nat}
set_option maxRecDepth 100000 in
set_option maxHeartbeats 1600000 in
theorem Give_ok {m : Nat} (l : List ByteArray) (i : Nat) (hh : Holds w w.heap.size A (strs l)) (hl : l.length = 4) (hi : i < 4) (hm : m ≤ 512) (hs : ∀ (k : Nat) t, l[k]? = some t → (k : Int) ≠ (i : Int) → t.size = m) :
    Calls Tryz.prog 115 #[.slice A 4 c, .int .i64 i] w fun e w' => e = .returned (.tuple #[.string (mkB m (xorB l i 4)), .int .i64 0]) ∧ Below w.heap.size w w' := by
  have hc := hid (wide_ok w)
  have hall := hid (all_ok (c := c) l (i : Int) hh hm (by omega) hs)
  rw [hl] at hall
  have d0 : decide ((i : Int) < 0) = false := by simp
  have d1 : decide ((4 : Int) ≤ (i : Int)) = false := by simp; omega
  have HM := hid hm
  clear hs hh hm
  go_enter Tryz.func115, Tryz.ntmps115
  go_wp2_with fail
  refine hc.out.mono ?_
  rintro e w' ⟨rfl, rfl⟩
  clear hc
  go_wp2_with fail
  refine hall.out.mono ?_
  rintro e w1 ⟨rfl, h1⟩
  clear hall
  have ht := hid (text_ok (m := m) (by have := h1.1; rw [anyB_four, if_pos rfl] at this; exact this) HM.out)
  have HB := hid h1.2
  clear h1
  go_wp2_with fail
  refine ht.out.mono ?_
  rintro e w2 ⟨rfl, h2⟩
  have HB2 := hid (HB.out.trans (h2.mono HB.out.size))
  clear h2 ht
  go_wp2_with fail
  go_ret2
  exact ⟨rfl, HB2.out⟩
/-- Where Join's loop stands. -/
def JoinRel (w wr : World) (l : List ByteArray) (i : Nat) (v7 : Value) : Prop := wr.ownsRow w.heap.size 5 1 v7 ((l.take i).map (·.data.toList)).flatten.length (byc ((l.take i).map (·.data.toList)).flatten) ∧ Below w.heap.size w wr
set_option maxRecDepth 100000 in
set_option maxHeartbeats 1600000 in
theorem Join_ok (l : List ByteArray) (n : Nat) (hh : Holds w w.heap.size A (strs l)) (hl : l.length = 4) (hn1 : 1 ≤ n) (hn : n ≤ 1536) (hs : ∀ t ∈ l, t.size = longN n) :
    Calls Tryz.prog 116 #[.slice A 4 c, .int .i64 n] w fun e w' => e = .returned (.tuple #[.string ⟨((l.map (·.data.toList)).flatten.take n).toArray⟩, .int .i64 0]) ∧ Below w.heap.size w w' := by
  have hc := hid (wide_ok w)
  have hc2 := hid (Long_ok n (by omega) w)
  have hlg : longN n ≤ 512 := by unfold longN; omega
  have hlg1 : n ≤ 3 * longN n := by unfold longN; omega
  generalize longN n = m at hs hlg hlg1 hc2
  have d0 : decide ((n : Int) < 0) = false := by simp
  have d1 : decide ((65536 : Int) < (n : Int)) = false := by simp; omega
  have d2 : decide ((512 : Int) < (m : Int)) = false := by simp; omega
  have q0 : (m : Int) ≤ 512 := by omega
  have q1 : (0 : Int) ≤ (m : Int) := by omega
  have q2 : (n : Int) ≤ 1536 := by omega
  have q3 : (0 : Int) ≤ (n : Int) := by omega
  have H := hid (And.intro hh (And.intro hl (And.intro hn1 (And.intro hn hs))))
  have HL := hid (And.intro hlg hlg1)
  clear hh hl hn1 hn hs hlg hlg1
  go_enter Tryz.func116, Tryz.ntmps116
  go_wp2_with fail
  refine hc.out.mono ?_
  rintro e w' ⟨rfl, rfl⟩
  clear hc
  go_wp2_with fail
  refine hc2.out.mono ?_
  rintro e w' ⟨rfl, rfl⟩
  clear hc2
  obtain ⟨i5, hi5, hzz⟩ := Option.map_eq_some_iff.1 info5
  simp only [Prod.mk.injEq] at hzz
  obtain ⟨hz0, hz1, hz2⟩ := hzz
  obtain ⟨w2, hmk, ho, hg⟩ := run_makeSlice_owned (P := Tryz.prog) (w := w) w.heap.size 172 5 i5 (.int .u8 0) 1 Tryz.underlying172 hi5 hz0 hz1 .i64 .i64 (m * 4) (by omega) (by rw [hz2]; omega) (by unfold maxLen; omega) (Nat.le_refl _)
  have hmk' : (Instr.makeSlice 172 (.int .i64 0) (.int .i64 ((m : Int) * 4))).run Tryz.prog w = .ok (.slice (some ⟨w.heap.size, 0, none⟩) 0 (m * 4)) w2 := by
    rw [← hmk]
    congr 3
  have HO := hid (And.intro ho (below_grown (e := 5) (size := 1) (World.ownsRow_nil _ _ _ _) hg (Nat.le_refl _)))
  clear ho hg hmk
  go_wp2_with (rw [hmk'])
  go_loopw [7, 9, 35] (fun v7 _ v35 wr => ∃ i : Nat, i ≤ 4 ∧ v35 = .int .i64 i ∧ Hid (JoinRel w wr l i v7)) (fun _ _ v35 _ => 4 - (intOf v35).toNat)
  case atStart => exact ⟨0, Nat.zero_le _, rfl, HO.out⟩
  case round =>
    obtain ⟨i, hi, rfl, hI⟩ := hrel
    by_cases hik : i < 4
    · obtain ⟨t, ht⟩ : ∃ t, l[i]? = some t := ⟨_, List.getElem?_eq_getElem (by rw [H.out.2.1]; exact hik)⟩
      obtain ⟨ad, hA, hab, hcs⟩ := H.out.1 (by rw [strs_length, H.out.2.1]; omega)
      subst hA
      have e1 : wr.cell? (ad.add i) = some (.string t) := (World.cell?_of_block (hI.out.2.block _ (by rw [block_add]; exact hab))).trans (hcs i _ (by simp [strs, ht]))
      have q1 : (i : Int) < 4 := by omega
      have q2 : (0 : Int) ≤ (i : Int) := by omega
      have hsz : t.size = m := H.out.2.2.2.2 t (List.mem_of_getElem? ht)
      have hcat : Hid (((l.take (i + 1)).map (·.data.toList)).flatten = ((l.take i).map (·.data.toList)).flatten ++ t.data.toList) := by
        show _ = _
        rw [List.take_add_one, ht]
        simp
      have hlen : Hid (((l.take i).map (·.data.toList)).flatten.length ≤ 2048) := by
        show _ ≤ _
        rw [cat_len m _ (fun u hu => H.out.2.2.2.2 u (List.mem_of_mem_take hu)), List.length_take]
        have h1 : min i l.length ≤ 4 := by omega
        have := Nat.mul_le_mul h1 HL.out.1
        omega
      have hts : Hid (t.size ≤ 512) := by show _ ≤ _; have := HL.out.1; omega
      have d5 : ((t.size : Int) != (m : Int)) = false := by simp [hsz]
      clear ht hab hcs hsz
      go_wp2_with (at_builtin; go_must (refine Lib.wpList_append_own_string _ rfl (.tmp 43) (.tmp 44) 172 9 rfl w.heap.size 5 i5 Tryz.underlying172 Tryz.underlying9 hi5 hz0 hz1 hz2 u7 ((l.take i).map (·.data.toList)).flatten.length (byc ((l.take i).map (·.data.toList)).flatten) rfl hI.out.1 t rfl (by have := hlen.out; have := hts.out; unfold maxLen; omega) (by have := hlen.out; have := hts.out; omega) hI.out.2.size ?_); intro v' w4 h5 h6 h7; have H5 := hid h5; have H6 := hid h6; clear h5 h6 h7)
      go_roundw
      case rel =>
        refine ⟨i + 1, by omega, by go_num, ?_, hI.out.2.trans (below_grown hI.out.1 H6.out hI.out.2.size)⟩
        rw [hcat.out, List.length_append, byc_append]
        exact H5.out
      case measure => simp [intOf]; omega
    · obtain rfl : i = 4 := by omega
      have htk : l.take 4 = l := List.take_of_length_le (by rw [H.out.2.1]; omega)
      have hO := hI.out
      unfold JoinRel at hO
      rw [htk] at hO
      have hcl := cat_len m l H.out.2.2.2.2
      rw [H.out.2.1] at hcl
      generalize hX : (l.map (·.data.toList)).flatten = X at hO hcl
      have hXn : n ≤ X.length := by have := HL.out.2; omega
      obtain ⟨g, cap, rfl, _, _⟩ := hO.1.form (by have := H.out.2.2.1; omega)
      have hcv : (convert 172 9 (.slice (some ⟨g, 0, none⟩) n cap)).run Tryz.prog wr = .ok (.string ⟨(X.take n).toArray⟩) wr := by
        have := run_convert_bytes_back (P := Tryz.prog) wr 172 9 5 ⟨g, 0, none⟩ cap (X.take n) Tryz.underlying172 Tryz.underlying5 Tryz.underlying9 (fun j hj => by
          have hjx : j < X.length := by rw [List.length_take] at hj; omega
          rw [List.getElem_take]
          exact hO.1.cells (g := g) rfl j _ (by simp [byc, hjx]))
        rw [List.length_take, Nat.min_eq_left hXn] at this
        exact this
      have hcap : X.length ≤ cap := by
        rcases own_blk hO.1 with ⟨h1, _⟩ | ⟨_, _, h1, _, _, h2, _⟩
        · cases h1
        · exact h2
      have k1 : n ≤ cap := by omega
      have k2 : (n : Int) ≤ (cap : Int) := by omega
      have HB := hid hO.2
      clear hO hcl hXn hI hcap
      go_wp2_with fail
      go_ret2
      exact ⟨by rw [hX]; rfl, HB.out⟩
end
end Go.Proofs.YtopbojifllnckaaGreatDoor
