/- SumsBurst: the walk of this law, for every input. -/
import Derived.Test.YtindcpheammaeaaLawsA
import Derived.Test.YtindcpheammaeaaFlip
import Derived.Lib.ConvBytes
namespace Go.Proofs.Ytindcpheammaeaa
open Go.RowKit
attribute [local go_sem] U_and U_xor U_and_one U_poly_and U_half U_neg U_bit U_not U_byte U_byte_mod U_xor_poly U_xor_max

/-- Block g is a row of bytes that a conversion made, and begins with l. -/
def Bts (w : World) (g : Nat) (l : List UInt8) : Prop :=
  ∃ cs : Array Value, w.heap[g]? = some (.cells cs 5 (cs.size, cs.size + 1)) ∧ l.length ≤ cs.size ∧ ∀ (j : Nat) (b : UInt8), l[j]? = some b → cs[j]? = some (.int .u8 b.toNat)
section
variable {w : World} {g : Nat} {l : List UInt8}
theorem Bts.cell (h : Bts w g l) {j : Nat} {b : UInt8} (hj : l[j]? = some b) : w.cell? ⟨g, j, none⟩ = some (.int .u8 b.toNat) := by
  obtain ⟨cs, hc, _, hv⟩ := h
  rw [cell_of_row w g j cs 5 _ hc]
  exact hv j b hj
theorem Bts.frozen (h : Bts w g l) {j : Nat} (hj : j < l.length) : w.frozen? ⟨g, j, none⟩ = false := by
  obtain ⟨cs, hc, hl, _⟩ := h
  simp [World.frozen?, hc]
  omega
theorem Bts.set_ (h : Bts w g l) (j : Nat) (b : UInt8) : Bts (w.setCell ⟨g, j, none⟩ (.int .u8 b.toNat)) g (l.set j b) := by
  obtain ⟨cs, hc, hl, hv⟩ := h
  refine ⟨cs.setIfInBounds j (.int .u8 b.toNat), ?_, by simpa using hl, fun i c hi => ?_⟩
  · simp [World.setCell, Array.getElem?_modify, hc]
  · rw [Array.getElem?_setIfInBounds]
    rw [List.getElem?_set] at hi
    split at hi
    · rename_i hji
      subst hji
      split at hi
      · rw [if_pos rfl, if_pos (by omega)]
        injection hi with hi
        rw [hi]
      · cases hi
    · rename_i hji
      rw [if_neg hji]
      exact hv i c hi
theorem Bts.drewN (h : Bts w g l) (n : Nat) : Bts (w.drewN n) g l := h
theorem Bts.new (w : World) (s : ByteArray) : Bts (Lib.bytesWorld w 5 s) w.heap.size s.data.toList := by
  refine ⟨_, Lib.bytesWorld_at_new w 5 s, ?_, fun j b hj => ?_⟩
  · simp [Lib.bytesCells]
  · have hlt : j < s.data.toList.length := by
      rcases Nat.lt_or_ge j s.data.toList.length with h1 | h1
      · exact h1
      · rw [List.getElem?_eq_none h1] at hj; cases hj
    have hs : j < s.size := by simpa using hlt
    have h2 := Lib.bytesWorld_cell w 5 s j hs
    rw [cell_of_row _ _ j _ 5 _ (Lib.bytesWorld_at_new w 5 s)] at h2
    rw [h2]
    simp only [List.getD, hj, Option.getD_some]
theorem Bts.string (h : Bts w g l) (cap : Nat) : (convert 37 9 (.slice (some ⟨g, 0, none⟩) l.length cap)).run Try.prog w = .ok (.string ⟨l.toArray⟩) w := by
  have h1 := run_convert_bytes_arg (P := Try.prog) w 37 5 Try.underlying37 Try.underlying5 g 0 l.length cap (l.map fun b => (b.toNat : Int)) (by simp) (fun i hi => by
    rw [Nat.zero_add, h.cell (List.getElem?_eq_getElem hi)]
    simp [List.getD, hi]) 9 Try.underlying9
  rw [h1]
  congr 2
  have e : (l.map fun b => (b.toNat : Int)).map (fun n => UInt8.ofNat n.toNat) = l := by
    rw [List.map_map]
    exact (List.map_congr_left (g := id) fun b _ => by simp).trans (List.map_id l)
  unfold strOfNums
  rw [e]
end
theorem below_bytes (w : World) (s : ByteArray) : Below w.heap.size w (Lib.bytesWorld w 5 s) :=
  ⟨rfl, rfl, rfl, by rw [Lib.bytesWorld_size]; omega, fun j hj => Lib.bytesWorld_at_old w 5 s j hj⟩

theorem at_small (a : Int) (n : Nat) (hn : n ≤ 65536) : ∃ K : Nat, wrap64 ((IntKind.u64.wrap a).tmod ((n : Int) + 4 - 3)) = (K : Int) ∧ K < n + 1 := by
  have h0 : 0 ≤ IntKind.u64.wrap a := by rw [IntKind.wrap_u64]; omega
  rw [Int.tmod_eq_emod_of_nonneg h0]
  have h1 := Int.emod_nonneg (IntKind.u64.wrap a) (show (n : Int) + 4 - 3 ≠ 0 by omega)
  have h2 := Int.emod_lt_of_pos (IntKind.u64.wrap a) (show 0 < (n : Int) + 4 - 3 by omega)
  refine ⟨(IntKind.u64.wrap a % ((n : Int) + 4 - 3)).toNat, ?_, by omega⟩
  generalize IntKind.u64.wrap a % ((n : Int) + 4 - 3) = z at *
  unfold wrap64
  omega
theorem u8_xor (a : UInt8) (y : Nat) : bits .xor .u8 (a.toNat : Int) ((y : Int) % 256) = ((a ^^^ UInt8.ofNat y).toNat : Int) := by
  rw [show ((y : Int) % 256) = ((y % 256 : Nat) : Int) by omega]
  rw [u8_xor_nat _ _ a.toNat_lt (by omega), UInt8.toNat_xor]
  congr 2
theorem u8_four (x : BitVec 32) (a : UInt8) (k : Nat) (v : Int) (h : (k = 0 ∧ v = U x % 256) ∨ (k = 1 ∧ v = U x / 256 % 256) ∨ (k = 2 ∧ v = U x / 65536 % 256) ∨ (k = 3 ∧ v = U x / 16777216 % 256)) :
    bits .xor .u8 (a.toNat : Int) v = ((a ^^^ (fourB x).getD k 0).toNat : Int) := by
  have k1 : U x / 256 = ((x.toNat / 256 : Nat) : Int) := by unfold U; omega
  have k2 : U x / 65536 = ((x.toNat / 65536 : Nat) : Int) := by unfold U; omega
  have k3 : U x / 16777216 = ((x.toNat / 16777216 : Nat) : Int) := by unfold U; omega
  rcases h with ⟨rfl, rfl⟩ | ⟨rfl, rfl⟩ | ⟨rfl, rfl⟩ | ⟨rfl, rfl⟩
  · exact u8_xor a x.toNat
  · rw [k1]; exact u8_xor a _
  · rw [k2]; exact u8_xor a _
  · rw [k3]; exact u8_xor a _
set_option maxHeartbeats 400000 in
theorem burst_walk (s : ByteArray) (hs : s.size ≤ 140737488351232) (at_ : Int) (n : Int) (hn : (Lit.int .u32 n).wf = true) (w : World) :
    Calls Try.prog 7 #[.string s, .int .i64 at_, .int .u32 n] w fun e w' => e = .returned (.bool true) ∧ Below w.heap.size w w' := by
  obtain ⟨x, rfl⟩ := of_wf hn
  clear hn
  by_cases hl : 65536 < s.size
  · go_enter Try.func7, Try.ntmps7
    go_wp2_with fail
    refine (awake_any _).mono ?_
    rintro e w1 ⟨rfl, hb⟩
    have B1 := hid hb
    clear hb
    go_wp2_with fail
    go_ret
    exact ⟨rfl, B1.out⟩
  · by_cases hx : x = 0#32
    · subst hx
      have hx0 : (U (0#32) == (0 : Int)) = true := rfl
      go_enter Try.func7, Try.ntmps7
      go_wp2_with fail
      refine (awake_any _).mono ?_
      rintro e w1 ⟨rfl, hb⟩
      have B1 := hid hb
      clear hb
      go_wp2_with fail
      go_ret
      exact ⟨rfl, B1.out⟩
    · have hx0 : (U x == (0 : Int)) = false := by
        rw [beq_eq_false_iff_ne]
        intro h
        exact hx (U_inj.1 h)
      have HX := hid hx
      clear hx
      have hz : (sealS s).size = s.size + 4 := sealS_size s
      have kc := fun (w : World) (s : ByteArray) => Lib.run_convert_string_bytes (P := Try.prog) w 9 37 5 s Try.underlying9 Try.underlying37 Try.underlying5
      go_enter Try.func7, Try.ntmps7
      go_wp2_with fail
      refine (seal_any s _ (by omega)).mono ?_
      rintro e w1 ⟨rfl, hb⟩
      have hg : w.heap.size ≤ w1.heap.size := hb.size
      have B1 := hid (hb.trans ((below_bytes w1 (sealS s)).mono hb.size))
      clear hb
      go_wp2_with fail
      obtain ⟨K, hK, hKl⟩ := at_small at_ s.size (by omega)
      rw [hK]
      have H1 := hid hK
      have e0 := Bts.new w1 (sealS s)
      have B0 := hid e0
      clear hK e0
      generalize w1.heap.size = g at *
      generalize Lib.bytesWorld w1 5 (sealS s) = w2 at *
      have hlen : (sealS s).data.toList.length = s.size + 4 := by rw [← hz]; simp
      generalize hL : (sealS s).data.toList = L at *
      have HL := hid hL
      clear hL
      go_loopw [9] (fun i wr => ∃ k : Nat, k ≤ 4 ∧ i = .int .i64 k ∧ Bts wr g (flipN L K x k) ∧ Below w.heap.size w wr) (fun i _ => 4 - (intOf i).toNat)
      case atStart => exact ⟨0, by omega, rfl, B0.out, B1.out⟩
      case round =>
        obtain ⟨k, hk, rfl, hm, hb⟩ := hrel
        have HM := hid hm
        have HB := hid hb
        clear hm hb
        by_cases hk4 : k < 4
        · have hj : (flipN L K x k)[K + k]? = some (L.getD (K + k) 0) := by
            rw [flipN_far _ _ _ _ _ (Nat.le_refl _)]
            simp only [List.getD]
            rw [List.getElem?_eq_getElem (by omega)]
            rfl
          have hcell := HM.out.cell hj
          have hfroz := HM.out.frozen (j := K + k) (by rw [flipN_length]; omega)
          have hset : Hid (Bts (wr.setCell ⟨g, K + k, none⟩ (.int .u8 (L.getD (K + k) 0 ^^^ (fourB x).getD k 0).toNat)) g (flipN L K x (k + 1))) := hid (HM.out.set_ (K + k) (L.getD (K + k) 0 ^^^ (fourB x).getD k 0))
          have hnat : ((K : Int) + (k : Int)).toNat = K + k := by omega
          clear hj
          generalize L.getD (K + k) 0 = a at *
          have hkk : k = 0 ∨ k = 1 ∨ k = 2 ∨ k = 3 := by omega
          rcases hkk with rfl | rfl | rfl | rfl
          all_goals (try simp only [Nat.add_zero] at hcell hfroz)
          all_goals go_wp2_with fail
          all_goals (try simp only [Nat.add_zero] at hset)
          · rw [u8_four x a 0 _ (Or.inl ⟨rfl, rfl⟩)]
            exact ⟨⟨1, by omega, rfl, hset.out, HB.out.setCell hg _⟩, by simp [intOf]⟩
          · rw [u8_four x a 1 _ (Or.inr (Or.inl ⟨rfl, rfl⟩))]
            exact ⟨⟨2, by omega, rfl, hset.out, HB.out.setCell hg _⟩, by simp [intOf]⟩
          · rw [u8_four x a 2 _ (Or.inr (Or.inr (Or.inl ⟨rfl, rfl⟩)))]
            exact ⟨⟨3, by omega, rfl, hset.out, HB.out.setCell hg _⟩, by simp [intOf]⟩
          · rw [u8_four x a 3 _ (Or.inr (Or.inr (Or.inr ⟨rfl, rfl⟩)))]
            exact ⟨⟨4, by omega, rfl, hset.out, HB.out.setCell hg _⟩, by simp [intOf]⟩
        · obtain rfl : k = 4 := by omega
          have hstr := fun cap => HM.out.string cap
          rw [flipN_length, hlen] at hstr
          have hno : ¬ fourS (sumB (hdS ⟨(flipN L K x 4).toArray⟩).data.toList) = tlS ⟨(flipN L K x 4).toArray⟩ := by
            rw [← HL.out]
            exact flip_no HX.out (by omega)
          have hT : (⟨(flipN L K x 4).toArray⟩ : ByteArray).size = s.size + 4 := by
            show (flipN L K x 4).toArray.size = _
            rw [List.size_toArray, flipN_length, hlen]
          have HNO := hid hno
          clear hno
          generalize (⟨(flipN L K x 4).toArray⟩ : ByteArray) = T at *
          go_wp2_with fail
          refine (open_no T _ (by omega) (by omega) HNO.out).mono ?_
          rintro e w3 ⟨rfl, hb⟩
          have B3 := hid (HB.out.trans (hb.mono HB.out.size))
          clear hb
          go_wp2_with fail
          refine (awake_any _).mono ?_
          rintro e w5 ⟨rfl, hb⟩
          have B5 := hid (B3.out.trans (hb.mono B3.out.size))
          clear hb
          go_wp2_with fail
          go_ret
          exact ⟨rfl, B5.out⟩

end Go.Proofs.Ytindcpheammaeaa
