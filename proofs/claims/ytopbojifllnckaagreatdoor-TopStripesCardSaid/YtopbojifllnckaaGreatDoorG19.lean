/- codec.groups: a number's bytes read back. codec.Reader: take, an int, a byte, the end. codec.Reader: ints; manager.Answer. manager.ints, manager.Encode. -/
import Derived.Test.YtopbojifllnckaaGreatDoorG18
namespace Go.Proofs.YtopbojifllnckaaGreatDoor
open Go.RowKit
attribute [local irreducible] wpQuiet
attribute [local go_sem high] run_mxI run_mnI
def GrRel (u : Nat) (v10 v4 : Value) : Prop :=
  ∃ (j a c : Nat) (pre : List UInt8), v10 = .int .i64 j ∧ v4 = .int .u64 a ∧ Hid (vi u = pre ++ vi c ∧ pre.length = j ∧ a < 128 ^ j ∧ a + c * 128 ^ j = u ∧ (0 < j → 0 < c))
theorem or_shl (a b j : Nat) (hb : b < 256) (ha : a < 128 ^ j) (ht : Lt64 (a + b % 128 * 128 ^ j)) :
    bits .or .u64 (a : Int) (IntKind.u64.wrap (bits .and .u64 (b : Int) 127 * 2 ^ (7 * j))) = ((a + b % 128 * 128 ^ j : Nat) : Int) := by
  unfold Lt64 at ht
  rw [and127 b (by unfold Lt64; omega)]
  have hp : (2 : Int) ^ (7 * j) = ((128 ^ j : Nat) : Int) := by rw [Int.pow_mul, Int.natCast_pow]; rfl
  rw [hp, ← Int.natCast_mul]
  have hw : IntKind.u64.wrap (((b % 128 * 128 ^ j : Nat) : Int)) = ((b % 128 * 128 ^ j : Nat) : Int) := by rw [u64_wrap]; omega
  rw [hw, u64_or_nat _ _ (by omega) (by omega)]
  congr 1
  have h7 : (128 : Nat) ^ j = 2 ^ (7 * j) := by rw [Nat.pow_mul]
  rw [h7] at ha ⊢
  rw [Nat.or_comm, Nat.mul_comm, ← Nat.two_pow_add_eq_or_of_lt ha, Nat.add_comm]
theorem byte_at {s : ByteArray} {pre rest : List UInt8} {b : UInt8} (hs : s.data.toList = pre ++ b :: rest) {j : Nat} (hj : pre.length = j) (hlt : j < s.size) : s[j] = b := by
  have h1 : s.data.toList[j]? = some b := by rw [hs, List.getElem?_append_right (by omega)]; simp [hj]
  have h2 : s.data.toList[j]? = some s[j] := by
    rw [List.getElem?_eq_getElem (by rw [Array.length_toList]; exact hlt)]
    rfl
  rw [h1] at h2
  exact (Option.some.inj h2).symm
set_option maxRecDepth 100000 in
set_option maxHeartbeats 1600000 in
theorem groups_vi (u : Nat) (hu : u < 18446744073709551616) (rest : List UInt8) (s : ByteArray) (hs : s.data.toList = vi u ++ rest) (hsz : s.size ≤ 1000000) (w : World) :
    Calls Tryz.prog 147 #[.string s] w fun e w' => e = .returned (.tuple #[.int .u64 u, .int .i64 (vi u).length]) ∧ w = w' := by
  have hten := vi_ten hu
  have hU : Lt64 u := hu
  have hmn : mnI (s.size : Int) 10 = ((min s.size 10 : Nat) : Int) := by unfold mnI; split <;> omega
  obtain ⟨m, hm⟩ : ∃ m, m = min s.size 10 := ⟨_, rfl⟩
  rw [← hm] at hmn
  have hl : (vi u).length ≤ m := by
    have : s.size = (vi u).length + rest.length := by
      have := congrArg List.length hs
      rw [List.length_append, Array.length_toList] at this
      exact this
    omega
  have hm2 : m ≤ s.size := by omega
  have hm3 : m ≤ 10 := by omega
  have HS := hid hs
  clear hm hs hu
  go_enter Tryz.func147, Tryz.ntmps147
  go_wp2_with fail
  clear hmn
  go_loop [4, 10] (fun v4 v10 => GrRel u v10 v4) (fun _ v10 => 10 - (intOf v10).toNat)
  case atStart => exact ⟨0, 0, u, [], rfl, rfl, rfl, rfl, by simp, by simp, fun h => absurd h (by omega)⟩
  case round =>
    obtain ⟨j, a, c, pre, rfl, rfl, hI⟩ := hrel
    have hpl : pre.length + (vi c).length ≤ m := by have := hI.out.1; rw [this, List.length_append] at hl; exact hl
    have hvc : 0 < (vi c).length := List.length_pos_iff.2 (vi_ne c)
    have hjm : j < m := by have := hI.out.2.1; omega
    have hjs : j < s.size := by omega
    by_cases h128 : c < 128
    · have hb := byte_at (s := s) (pre := pre) (b := UInt8.ofNat c) (rest := rest) (by rw [HS.out, hI.out.1, vi_lt h128]; simp) hI.out.2.1 hjs
      have hbn : (s[j]).toNat = c := by rw [hb]; exact low_byte h128
      have hor := or_shl a c j (by omega) hI.out.2.2.1 (by rw [Nat.mod_eq_of_lt h128, hI.out.2.2.2.1]; exact hU)
      have hend : Hid ((a + c % 128 * 128 ^ j : Nat) = u) := by show _ = _; rw [Nat.mod_eq_of_lt h128]; exact hI.out.2.2.2.1
      have hlen : Hid ((vi u).length = j + 1) := by show _ = _; rw [hI.out.1, List.length_append, hI.out.2.1, vi_lt h128]; rfl
      have d1 : decide ((128 : Int) ≤ (c : Int)) = false := by simp; omega
      have hc0 := hI.out.2.2.2.2
      have hc9 : j = 9 → c ≤ 1 := fun h9 => by
        have h1 := hI.out.2.2.2.1
        subst h9
        have e : (128 : Nat) ^ 9 = 9223372036854775808 := by rfl
        rw [e] at h1
        unfold Lt64 at hU
        omega
      rw [hend.out] at hor
      have HB := hid hb
      clear hb
      have hfin : Hid (∀ x : Int, x = (j : Int) + 1 → x = ((vi u).length : Int)) := fun x hx => by rw [hlen.out, hx]; rfl
      by_cases hj0 : j = 0
      · have d2 : decide ((0 : Int) < (j : Int)) = false := by simp; omega
        have d2' : decide (0 < j) = false := by simp; omega
        have d3 : ((j : Int) == 9) = false := by simp; omega
        have HJ := hid hj0
        clear hj0 hc0 hc9
        go_wp2_with fail
        go_ret2
        exact ⟨by rw [hlen.out]; rfl, rfl⟩
      · have d2 : decide ((0 : Int) < (j : Int)) = true := by simp; omega
        have d2' : decide (0 < j) = true := by simp; omega
        have d4 : ((c : Int) == 0) = false := by have := hc0 (by omega); simp; omega
        have d4' : (c == 0) = false := by have := hc0 (by omega); simp; omega
        by_cases hj9 : j = 9
        · have d3 : ((j : Int) == 9) = true := by simp; omega
          have d5 : decide ((1 : Int) < (c : Int)) = false := by have := hc9 hj9; simp; omega
          have d5' : decide (1 < c) = false := by have := hc9 hj9; simp; omega
          have HJ := hid hj9
          clear hj0 hc0 hc9 hj9
          go_wp2_with fail
          go_ret2
          exact ⟨by rw [hlen.out]; rfl, rfl⟩
        · have d3 : ((j : Int) == 9) = false := by simp; omega
          clear hj0 hc0 hc9 hj9
          go_wp2_with fail
          go_ret2
          exact ⟨by rw [hlen.out]; rfl, rfl⟩
    · have hb := byte_at (s := s) (pre := pre) (b := UInt8.ofNat (c % 128 + 128)) (rest := vi (c / 128) ++ rest) (by rw [HS.out, hI.out.1, vi_ge h128]; simp) hI.out.2.1 hjs
      obtain ⟨bv, hbv⟩ : ∃ bv, bv = c % 128 + 128 := ⟨_, rfl⟩
      have hbn : (s[j]).toNat = bv := by rw [hb, hbv, UInt8.toNat_ofNat']; exact Nat.mod_eq_of_lt (by omega)
      have hb2 : bv < 256 := by omega
      have hb3 : bv % 128 = c % 128 := by omega
      have hd : c / 128 * 128 ^ (j + 1) + c % 128 * 128 ^ j = c * 128 ^ j := by
        rw [Nat.pow_succ, Nat.mul_comm (128 ^ j) 128, ← Nat.mul_assoc, ← Nat.add_mul]
        congr 1
        omega
      have hor := or_shl a bv j hb2 hI.out.2.2.1 (by
        have h1 := hI.out.2.2.2.1
        rw [hb3]
        unfold Lt64 at *
        omega)
      have d1 : decide ((128 : Int) ≤ (bv : Int)) = true := by simp; omega
      have hlast : pre.length + 1 + (vi (c / 128)).length = (vi u).length := by rw [hI.out.1, List.length_append, vi_ge h128, List.length_cons]; omega
      have hlp : 0 < (vi (c / 128)).length := List.length_pos_iff.2 (vi_ne _)
      have hj8 : j + 1 < 10 := by have := hI.out.2.1; omega
      have hnext : Hid (vi u = (pre ++ [UInt8.ofNat (c % 128 + 128)]) ++ vi (c / 128) ∧ (pre ++ [UInt8.ofNat (c % 128 + 128)]).length = j + 1 ∧ a + bv % 128 * 128 ^ j < 128 ^ (j + 1) ∧ (a + bv % 128 * 128 ^ j) + c / 128 * 128 ^ (j + 1) = u ∧ (0 < j + 1 → 0 < c / 128)) := by
        refine ⟨by rw [hI.out.1, vi_ge h128]; simp, by rw [List.length_append, hI.out.2.1]; rfl, ?_, ?_, fun _ => by omega⟩
        · have h1 := hI.out.2.2.1
          have h2 : bv % 128 * 128 ^ j ≤ 127 * 128 ^ j := Nat.mul_le_mul_right _ (by omega)
          rw [Nat.pow_succ]
          omega
        · have h1 := hI.out.2.2.2.1
          rw [hb3]
          omega
      generalize a + bv % 128 * 128 ^ j = x at hor hnext
      have HB := hid hb
      have HV := hid hbv
      clear hb hbv hd hb3 hlast
      go_wp2_with fail
      go_round
      case rel => exact ⟨j + 1, x, c / 128, _, by go_num, rfl, hnext⟩
      case measure => simp [intOf]; omega
end Go.Proofs.YtopbojifllnckaaGreatDoor
namespace Go.Proofs.YtopbojifllnckaaGreatDoor
open Go.RowKit
attribute [local irreducible] wpQuiet
/-- A reader: what is left. -/
def RdAt (w : World) (g : Nat) (l : List UInt8) (bad : Bool) : Prop := Blk w g 174 #[.string ⟨l.toArray⟩, .bool bad]
theorem cut_front (l rest : List UInt8) (n : Nat) (hn : l.length = n) : (ByteArray.mk (l ++ rest).toArray).extract 0 n = ⟨l.toArray⟩ := by
  apply ByteArray.ext
  rw [ByteArray.data_extract]
  apply Array.ext'
  simp [← hn]
theorem cut_back (l rest : List UInt8) (n : Nat) (hn : l.length = n) : (ByteArray.mk (l ++ rest).toArray).extract n (n + rest.length) = ⟨rest.toArray⟩ := by
  apply ByteArray.ext
  rw [ByteArray.data_extract]
  apply Array.ext'
  simp [← hn]
section
variable {w : World} {g : Nat} {l rest : List UInt8} {bad : Bool}
theorem newR_any (w : World) (l : List UInt8) : Calls Tryz.prog 34 #[.string ⟨l.toArray⟩] w fun e w' => e = .returned (.pointer (some ⟨w.heap.size, 0, none⟩)) ∧ RdAt w' w.heap.size l false ∧ Below w.heap.size w w' := by
  go_enter Tryz.func34, Tryz.ntmps34
  go_wp2_with fail
  go_ret
  exact ⟨rfl, Blk.new w _ _, (Below.refl _ _).alloc (Nat.le_refl _) _⟩
set_option maxHeartbeats 400000 in
theorem rtake_ok (h : RdAt w g (l ++ rest) false) (n : Nat) (hn : l.length = n) : Calls Tryz.prog 81 #[.pointer (some ⟨g, 0, none⟩), .int .i64 n] w fun e w' => e = .returned (.tuple #[.string ⟨l.toArray⟩, .bool true]) ∧ RdAt w' g rest false ∧ Only (· = g) w w' := by
  unfold RdAt at h
  have f0 := h.frozen 0
  have e0 : w.cell? ⟨g, 0, none⟩ = some (.string ⟨(l ++ rest).toArray⟩) := by rw [h.cell]; rfl
  have e1 : w.cell? ⟨g, 1, none⟩ = some (.bool false) := by rw [h.cell]; rfl
  have hs : (ByteArray.mk (l ++ rest).toArray).size = n + rest.length := by show (l ++ rest).toArray.size = _; simp [hn]
  have d1 : decide (((n + rest.length : Nat) : Int) < (n : Int)) = false := by simp; omega
  obtain ⟨s, hs0⟩ : ∃ s, s = (ByteArray.mk (l ++ rest).toArray) := ⟨_, rfl⟩
  have hx1 := cut_front l rest n hn
  have hx2 := cut_back l rest n hn
  rw [← hs0] at e0 hs hx1 hx2
  have H := hid h
  have HN := hid hn
  have H0 := hid hs0
  clear h hn hs0
  go_enter Tryz.func81, Tryz.ntmps81
  go_wp2_with fail
  go_ret2
  exact ⟨rfl, H.out.set_ 0 _, (Only.refl (· = g) w).setCell (p := ⟨g, 0, none⟩) (.inl rfl) _⟩
theorem and1 (u : Nat) (h : Lt64 u) : bits .and .u64 (u : Int) 1 = ((u % 2 : Nat) : Int) := by
  have := u64_and_nat u 1 h (by omega)
  rw [Nat.and_one_is_mod] at this
  exact this
theorem odd_neg (u : Nat) (h : Lt64 u) : bits .xor .i64 (wrap64 ((u : Int) / 2)) (wrap64 (-wrap64 (bits .and .u64 (u : Int) 1))) = unzz u := by
  rw [and1 u h]
  unfold Lt64 at h
  have e1 : wrap64 ((u : Int) / 2) = ((u / 2 : Nat) : Int) := by unfold wrap64; omega
  rw [e1]
  show IntKind.i64.wrap (((BitVec.ofInt 64 _ ^^^ BitVec.ofInt 64 _).toNat : Nat) : Int) = _
  have e5 : (BitVec.ofInt 64 ((u / 2 : Nat) : Int)).toNat = u / 2 := by
    rw [BitVec.toNat_ofInt]
    omega
  unfold unzz
  by_cases he : u % 2 = 0
  · rw [if_pos he, he]
    have e2 : wrap64 (-wrap64 ((0 : Nat) : Int)) = 0 := by unfold wrap64; omega
    have e4 : BitVec.ofInt 64 0 = 0#64 := rfl
    rw [e2, e4, BitVec.xor_zero, e5, IntKind.wrap_i64]
    omega
  · rw [if_neg he, show u % 2 = 1 from by omega]
    have e2 : wrap64 (-wrap64 ((1 : Nat) : Int)) = -1 := by unfold wrap64; omega
    have e4 : BitVec.ofInt 64 (-1) = BitVec.allOnes 64 := rfl
    rw [e2, e4, BitVec.xor_allOnes, BitVec.toNat_not, e5, IntKind.wrap_i64]
    omega
set_option maxHeartbeats 400000 in
theorem rint_ok (k : Int) (hk : I64 k) (h : RdAt w g (vi (zz k) ++ rest) false) (hsz : (vi (zz k) ++ rest).length ≤ 1000000) :
    Calls Tryz.prog 82 #[.pointer (some ⟨g, 0, none⟩)] w fun e w' => e = .returned (.int .i64 k) ∧ RdAt w' g rest false ∧ Only (· = g) w w' := by
  have hz := zz_lt hk.1 hk.2
  have e0 : w.cell? ⟨g, 0, none⟩ = some (.string ⟨(vi (zz k) ++ rest).toArray⟩) := by unfold RdAt at h; rw [h.cell]; rfl
  obtain ⟨s, hs0⟩ : ∃ s, s = (ByteArray.mk (vi (zz k) ++ rest).toArray) := ⟨_, rfl⟩
  have hc := hid (groups_vi (zz k) hz rest s (by rw [hs0]) (by rw [hs0]; show (vi (zz k) ++ rest).toArray.size ≤ _; rw [List.size_toArray]; exact hsz) w)
  have hc2 := hid (rtake_ok h (vi (zz k)).length rfl)
  rw [← hs0] at e0
  have hne : (((vi (zz k)).length : Int) == 0) = false := by have := List.length_pos_iff.2 (vi_ne (zz k)); rw [beq_eq_false_iff_ne]; omega
  have hx := odd_neg (zz k) hz
  rw [unzz_zz] at hx
  clear hz hs0 h hk
  go_enter Tryz.func82, Tryz.ntmps82
  go_wp2_with fail
  refine hc.out.mono ?_
  rintro e w' ⟨rfl, rfl⟩
  go_wp2_with fail
  refine hc2.out.mono ?_
  rintro e w' ⟨rfl, h1, h2⟩
  have H1 := hid h1
  have H2 := hid h2
  clear h1 h2
  go_wp2_with fail
  go_ret
  exact ⟨rfl, H1.out, H2.out⟩
theorem rdone_ok (h : RdAt w g [] false) : Calls Tryz.prog 37 #[.pointer (some ⟨g, 0, none⟩)] w fun e w' => e = .returned (.int .i64 0) ∧ w = w' := by
  have e0 : w.cell? ⟨g, 0, none⟩ = some (.string ⟨#[]⟩) := by unfold RdAt at h; rw [h.cell]; rfl
  have e1 : w.cell? ⟨g, 1, none⟩ = some (.bool false) := by unfold RdAt at h; rw [h.cell]; rfl
  clear h
  go_enter Tryz.func37, Tryz.ntmps37
  go_wp2_with fail
  go_ret
  exact ⟨rfl, rfl⟩
theorem rbyte_ok (b : UInt8) (h : RdAt w g (b :: rest) false) :
    Calls Tryz.prog 35 #[.pointer (some ⟨g, 0, none⟩)] w fun e w' => e = .returned (.int .i64 b.toNat) ∧ RdAt w' g rest false ∧ Only (· = g) w w' := by
  have hc := hid (rtake_ok (l := [b]) h 1 rfl)
  have hsz : (ByteArray.mk [b].toArray).size = 1 := rfl
  have hb : (ByteArray.mk [b].toArray)[0]'(by omega) = b := rfl
  have hb2 : b.toNat < 256 := b.toNat_lt
  clear h
  go_enter Tryz.func35, Tryz.ntmps35
  go_wp2_with fail
  refine hc.out.mono ?_
  rintro e w' ⟨rfl, h1, h2⟩
  have H1 := hid h1
  have H2 := hid h2
  clear h1 h2
  go_wp2_with fail
  go_ret
  exact ⟨rfl, H1.out, H2.out⟩
end
end Go.Proofs.YtopbojifllnckaaGreatDoor
namespace Go.Proofs.YtopbojifllnckaaGreatDoor
open Go.RowKit
attribute [local irreducible] wpQuiet
theorem Only.then_below {S : Nat → Prop} {w w1 w2 : World} (h : Only S w w1) (k : Below w.heap.size w1 w2) : Only S w w2 :=
  ⟨k.os.trans h.os, k.tape.trans h.tape, k.output.trans h.output, Nat.le_trans h.size k.size, fun i hi hs => (k.block i hi).trans (h.block i hi hs)⟩
theorem info3 : (Tryz.prog.info? 3).map (fun i => (i.zero, i.size, i.bytes)) = some (some (.int .i64 0), 1, 8) := by kernel_rfl
theorem vis_ge (L : List Int) : L.length ≤ (vis L).length := by
  induction L with
  | nil => simp [vis]
  | cons a L ih =>
    have := List.length_pos_iff.2 (vi_ne (zz a))
    simp only [vis, List.flatMap_cons, List.length_append, List.length_cons] at ih ⊢
    omega
theorem vis_drop (L : List Int) {j : Nat} (hj : j < L.length) : vis (L.drop j) = vi (zz L[j]) ++ vis (L.drop (j + 1)) := by
  unfold vis
  rw [List.drop_eq_getElem_cons hj, List.flatMap_cons]
theorem nums_snoc (L : List Int) {j : Nat} (hj : j < L.length) : nums (L.take (j + 1)) = nums (L.take j) ++ [.int .i64 L[j]] := by
  unfold nums
  rw [List.take_succ_eq_append_getElem hj, List.map_append]
  rfl
def ListRel (w : World) (g : Nat) (L : List Int) (rest : List UInt8) (j : Nat) (v6 : Value) (wr : World) : Prop :=
  wr.ownsRow w.heap.size 3 1 v6 j (nums (L.take j)) ∧ RdAt wr g (vis (L.drop j) ++ rest) false ∧ Only (· = g) w wr
/-- A slice that reads numbers, in new memory. -/
def NewInts (w w' : World) (v : Value) (L : List Int) : Prop := w'.ownsRow w.heap.size 3 1 v L.length (nums L)
section
variable {w : World} {g : Nat} {L : List Int} {rest : List UInt8}
set_option maxRecDepth 100000 in
set_option maxHeartbeats 800000 in
theorem list_ok (h : RdAt w g (ibs L ++ rest) false) (hL : ∀ n ∈ L, I64 n) {N : Nat} (hN : L.length = N) (hs : N ≤ 100) (hr : rest.length ≤ 1000) :
    Calls Tryz.prog 83 #[.pointer (some ⟨g, 0, none⟩), .func (.func 82) #[.pointer (some ⟨g, 0, none⟩)] #[]] w fun e w' => ∃ v, e = .returned v ∧ NewInts w w' v L ∧ RdAt w' g rest false ∧ Only (· = g) w w' := by
  have hg := h.lt
  have h64 := small64 (n := L.length) (by omega)
  have hvl := vis_len hL
  have hge := vis_ge L
  have hv10 := vi_ten (zz_lt h64.1 h64.2)
  have hc := hid (rint_ok (rest := vis L ++ rest) (L.length : Int) h64 (by unfold ibs at h; rw [List.append_assoc] at h; exact h) (by simp only [List.length_append]; omega))
  have HL := hid hL
  have HN := hid hN
  rw [hN] at hc hge
  clear h64 hL h hv10
  go_enter Tryz.func83, Tryz.ntmps83
  go_wp2_with fail
  refine hc.out.mono ?_
  rintro e w1 ⟨rfl, h1, h2⟩
  have e0 : w1.cell? ⟨g, 0, none⟩ = some (.string ⟨(vis L ++ rest).toArray⟩) := by unfold RdAt at h1; rw [h1.cell]; rfl
  have hsz : (ByteArray.mk (vis L ++ rest).toArray).size = (vis L).length + rest.length := by show (vis L ++ rest).toArray.size = _; simp
  obtain ⟨s, hs0⟩ : ∃ s, s = (ByteArray.mk (vis L ++ rest).toArray) := ⟨_, rfl⟩
  rw [← hs0] at e0 hsz
  obtain ⟨m, hm⟩ : ∃ m, m = (vis L).length + rest.length := ⟨_, rfl⟩
  rw [← hm] at hsz
  have hNm : N ≤ m := by omega
  have d1 : decide ((m : Int) < (N : Int)) = false := by simp; omega
  have d1' : decide (m < N) = false := by simp; omega
  have d2 : decide ((N : Int) < 0) = false := by simp
  have H1 := hid h1
  have H2 := hid h2
  clear h1 h2 hm hs0 hN hge
  go_wp2_with fail
  go_loopw [6, 27] (fun v6 v27 wr => ∃ j : Nat, j ≤ N ∧ v27 = .int .i64 j ∧ Hid (ListRel w g L rest j v6 wr)) (fun _ v27 _ => N - (intOf v27).toNat)
  case atStart => exact ⟨0, Nat.zero_le _, rfl, by simpa [nums] using World.ownsRow_nil w1 w.heap.size 3 1, by simpa using H1.out, H2.out⟩
  case round =>
    obtain ⟨j, hj, rfl, hI⟩ := hrel
    by_cases hjn : j < N
    · have hjL : j < L.length := by rw [HN.out]; exact hjn
      have h64j := HL.out L[j] (List.getElem_mem hjL)
      have hrd := hI.out.2.1
      rw [vis_drop L hjL, List.append_assoc] at hrd
      have hdl := vis_len (L := L.drop (j + 1)) fun n hn => HL.out n (List.mem_of_mem_drop hn)
      have hten := vi_ten (zz_lt h64j.1 h64j.2)
      have hdd : (L.drop (j + 1)).length ≤ N := by rw [List.length_drop, HN.out]; omega
      have hc2 := hid (rint_ok L[j] h64j hrd (by simp only [List.length_append]; omega))
      have hsn := hid (nums_snoc L hjL)
      obtain ⟨y, hy⟩ : ∃ y, y = L[j] := ⟨_, rfl⟩
      rw [← hy] at hc2 hsn
      have hws := Only.size hI.out.2.2
      clear h64j hy hrd hdl hten hdd
      go_wp2_with fail
      refine hc2.out.mono ?_
      rintro e w2 ⟨rfl, h3, h4⟩
      have hrow := own_only hI.out.1 h4 (fun k hk => hk ▸ hg)
      have hws2 := h4.size
      have HR := hid hrow
      have H3 := hid h3
      have H4 := hid h4
      clear h3 h4 hrow
      go_wp2_with (at_builtin; refine wpList_app1 _ rfl (.tmp 29) (.tmp 32) 26 3 (.int .i64 0) 8 rfl Tryz.underlying26 info3 rfl (by decide) w.heap.size u6 j (nums (L.take j)) rfl (.inl HR.out) _ rfl rfl (by omega) (by omega) ?_; intro v' w3 h5 h6; have e5 : w3.cell? ⟨g, 1, none⟩ = some (.bool false) := (Blk.below H3.out h6 hg).cell 1; have H5 := hid h5; have H6 := hid h6; clear h5 h6)
      go_roundw
      case rel =>
        refine ⟨j + 1, by omega, by go_num, hid ⟨?_, Blk.below H3.out H6.out hg, (hI.out.2.2.trans H4.out).then_below H6.out⟩⟩
        rw [hsn.out]
        exact H5.out
      case measure => simp [intOf]; omega
    · obtain rfl : j = N := by omega
      go_wp2_with fail
      go_ret
      refine ⟨u6, rfl, ?_, ?_, hI.out.2.2⟩
      · have h := hI.out.1
        rw [← HN.out, List.take_length] at h
        exact h
      · have h := hI.out.2.1
        rw [← HN.out, List.drop_length] at h
        exact h
theorem rints_ok (h : RdAt w g (ibs L ++ rest) false) (hL : ∀ n ∈ L, I64 n) {N : Nat} (hN : L.length = N) (hs : N ≤ 100) (hr : rest.length ≤ 1000) :
    Calls Tryz.prog 36 #[.pointer (some ⟨g, 0, none⟩)] w fun e w' => ∃ v, e = .returned v ∧ NewInts w w' v L ∧ RdAt w' g rest false ∧ Only (· = g) w w' := by
  have hc := hid (list_ok h hL hN hs hr)
  clear h hL hN
  go_enter Tryz.func36, Tryz.ntmps36
  go_wp2_with fail
  refine hc.out.mono ?_
  rintro e w' ⟨v, rfl, h1⟩
  have H1 := hid h1
  clear h1
  go_wp2_with fail
  go_ret
  exact ⟨v, rfl, H1.out⟩
/-- What is told is understood. -/
theorem Answer_ok (e : Nat) (he : e < 256) (hL : ∀ n ∈ L, I64 n) (hs : L.length ≤ 100) (w : World) :
    Calls Tryz.prog 8 #[.string (ansB L e)] w fun r w' => ∃ v, r = .returned (.tuple #[.int .i64 e, v, .int .i64 0]) ∧ NewInts w w' v (if e = 0 then L else []) ∧ Below w.heap.size w w' := by
  obtain ⟨K, hK⟩ : ∃ K, K = if e = 0 then L else [] := ⟨_, rfl⟩
  have hKs : K.length ≤ 100 := by rw [hK]; split; exact hs; exact Nat.zero_le _
  have hKL : ∀ n ∈ K, I64 n := by
    rw [hK]
    split
    · exact hL
    · intro n hn; cases hn
  have hans : ansB L e = ⟨(UInt8.ofNat e :: ibs K).toArray⟩ := by rw [hK]; rfl
  rw [hans, ← hK]
  have HKL := hid hKL
  clear hans hK hL hKL
  go_enter Tryz.func8, Tryz.ntmps8
  go_wp2_with fail
  refine (newR_any w (UInt8.ofNat e :: ibs K)).mono ?_
  rintro r w1 ⟨rfl, h1, h2⟩
  have hc1 := hid (rbyte_ok (rest := ibs K) (UInt8.ofNat e) h1)
  have HB := hid h2
  clear h1 h2
  go_wp2_with fail
  refine hc1.out.mono ?_
  rintro r w2 ⟨rfl, h1, h2⟩
  have hc2 := hid (rints_ok (L := K) (rest := []) (by rw [List.append_nil]; exact h1) HKL.out rfl hKs (by simp))
  have HB2 := hid h2
  clear h1 h2
  go_wp2_with fail
  refine hc2.out.mono ?_
  rintro r w3 ⟨v, rfl, h1, h2, h3⟩
  have hc3 := hid (rdone_ok h2)
  have HV := hid h1
  have HB3 := hid h3
  clear h1 h2 h3
  have heq2 : Hid ((e : Int) % 256 = e) := by show _ = _; omega
  have heq : Hid ((UInt8.ofNat e).toNat = e) := by show _ = _; rw [UInt8.toNat_ofNat']; exact Nat.mod_eq_of_lt he
  go_wp2_with fail
  refine hc3.out.mono ?_
  rintro r w4 ⟨rfl, rfl⟩
  go_wp2_with fail
  go_ret3
  have hb2 := HB.out
  have s2 := HB2.out.size
  have s1 := HB.out.size
  refine ⟨v, by rw [heq2.out]; rfl, own_lower HV.out (by omega), ?_⟩
  have h12 := (HB2.out.below (B := w.heap.size) (by omega) fun k hk e => by subst e; exact Nat.lt_irrefl _ hk)
  have h23 := (HB3.out.below (B := w.heap.size) (by omega) fun k hk e => by subst e; exact Nat.lt_irrefl _ hk)
  exact (hb2.trans h12).trans h23
end
end Go.Proofs.YtopbojifllnckaaGreatDoor
namespace Go.Proofs.YtopbojifllnckaaGreatDoor
open Go.RowKit
attribute [local irreducible] wpQuiet
/-- Pointers to a command's numbers. -/
def ptrs (p : Nat) : Array Value := #[.pointer (some ⟨p, 0, none⟩), .pointer (some ⟨p, 1, none⟩), .pointer (some ⟨p, 2, none⟩), .pointer (some ⟨p, 3, none⟩), .pointer (some ⟨p, 4, none⟩), .pointer (some ⟨p, 5, none⟩), .pointer (some ⟨p, 6, none⟩), .pointer (some ⟨p, 7, none⟩)]
theorem ptrs_get (p : Nat) {j : Nat} (hj : j < 8) : (ptrs p)[j]? = some (.pointer (some ⟨p, j, none⟩)) := by
  match j, hj with
  | 0, _ => rfl
  | 1, _ => rfl
  | 2, _ => rfl
  | 3, _ => rfl
  | 4, _ => rfl
  | 5, _ => rfl
  | 6, _ => rfl
  | 7, _ => rfl
theorem cells_get (x : Cmd) {j : Nat} (hj : j < 8) : x.cells[j]? = some (.int .i64 (x.list[j]'(by simpa [Cmd.list] using hj))) := by
  match j, hj with
  | 0, _ => rfl
  | 1, _ => rfl
  | 2, _ => rfl
  | 3, _ => rfl
  | 4, _ => rfl
  | 5, _ => rfl
  | 6, _ => rfl
  | 7, _ => rfl
set_option maxRecDepth 100000 in
theorem ints_any (p : Nat) (w : World) : Calls Tryz.prog 88 #[.pointer (some ⟨p, 0, none⟩)] w fun e w' => e = .returned (.slice (some ⟨w.heap.size, 0, none⟩) 8 8) ∧ Blk w' w.heap.size 184 (ptrs p) ∧ Below w.heap.size w w' := by
  go_enter Tryz.func88, Tryz.ntmps88
  go_wp2_with fail
  go_still_tail 24, (by kernel_rfl)
  change wpList _ _ _ _ _ (w.drewN 1)
  go_wp2_with fail
  go_ret
  exact ⟨rfl, Blk.new (w.drewN 1) _ _, (below_drewN (Below.refl _ _) 1).alloc (Nat.le_refl _) _⟩
def EncRel (w : World) (base b0 bi g : Nat) (x : Cmd) (j : Nat) (wr : World) : Prop :=
  WrAt wr base g (vis (x.list.take j)) ∧ Blk wr b0 30 x.cells ∧ Blk wr bi 184 (ptrs b0) ∧ Below w.heap.size w wr ∧ b0 ≠ g ∧ bi ≠ g
set_option maxRecDepth 100000 in
set_option maxHeartbeats 1600000 in
theorem menc_ok (x : Cmd) (h : x.OK) (k : x.In) (w : World) :
    Calls Tryz.prog 89 #[.agg x.cells] w fun e w' => e = .returned (.tuple #[.string (encC x), .int .i64 0]) ∧ Below w.heap.size w w' := by
  have hall := hid (Cmd.all h k)
  have h0 := h.c0; have h1 := h.c1; have h2 := h.s0; have h3 := h.s1; have h4 := h.k0; have h5 := h.k1
  have hB := Blk.new w 30 x.cells
  have hb0 := (Below.refl w.heap.size w).alloc (Nat.le_refl _) (.cells x.cells 30)
  obtain ⟨W, hW⟩ : ∃ W, W = w.alloc (.cells x.cells 30) := ⟨_, rfl⟩
  rw [← hW] at hB hb0
  have hsz : W.heap.size = w.heap.size + 1 := by rw [hW]; simp
  have d0 : decide (x.cl < 0) = false := by simp; omega
  have d1 : decide (16 ≤ x.cl) = false := by simp; omega
  have d2 : decide (x.sq < 0) = false := by simp; omega
  have d3 : decide (2147483648 ≤ x.sq) = false := by simp; omega
  have d4 : decide (x.kd < 1) = false := by simp; omega
  have d5 : decide (9 < x.kd) = false := by simp; omega
  have HB := hid hB
  have HB0 := hid hb0
  have HSZ := hid hsz
  have hWe : Hid (w.alloc (.cells #[.int .i64 x.cl, .int .i64 x.sq, .int .i64 x.kd, .int .i64 x.a, .int .i64 x.b, .int .i64 x.c, .int .i64 x.d, .int .i64 x.e] 30) = W) := hW.symm
  clear hB hb0 hsz hW h k h0 h1 h2 h3 h4 h5
  unfold Cmd.cells
  go_enter Tryz.func89, Tryz.ntmps89
  go_wp2_with fail
  rw [hWe.out]
  clear d0 d1 d2 d3 d4 d5
  refine (newW_any W).mono ?_
  rintro e w1 ⟨rfl, h1, h2⟩
  have hw1 := h2.size
  have HW1 := hid h1
  have HB1 := hid h2
  have hlt := HW1.out.lt
  clear h1 h2
  go_wp2_with fail
  refine (ints_any w.heap.size w1).mono ?_
  rintro e w2 ⟨rfl, h1, h2⟩
  have HP := hid h1
  have HB2 := hid h2
  have hw2 := h2.size
  clear h1 h2
  go_wp2_with fail
  go_loopw [38] (fun v38 wr => ∃ j : Nat, j ≤ 8 ∧ v38 = .int .i64 j ∧ Hid (EncRel w W.heap.size w.heap.size w1.heap.size W.heap.size x j wr)) (fun v38 _ => 8 - (intOf v38).toNat)
  case atStart =>
    have hz := HSZ.out
    refine ⟨0, Nat.zero_le _, rfl, ?_, ?_, HP.out, ?_, by omega, by omega⟩
    · have := HW1.out.below HB2.out
      simpa [vis] using this
    · exact ((HB.out.below HB1.out (by omega)).below HB2.out (by omega))
    · exact ((HB0.out.trans (HB1.out.mono (by omega))).trans (HB2.out.mono (by omega)))
  case round =>
    obtain ⟨j, hj, rfl, hI⟩ := hrel
    have hxl : x.list.length = 8 := rfl
    by_cases hj8 : j < 8
    · have hjl : j < x.list.length := by omega
      have e0 : wr.cell? ⟨w1.heap.size, j, none⟩ = some (.pointer (some ⟨w.heap.size, j, none⟩)) := by rw [hI.out.2.2.1.cell]; exact ptrs_get _ hj8
      have e1 : wr.cell? ⟨w.heap.size, j, none⟩ = some (.int .i64 (x.list[j]'hjl)) := by rw [hI.out.2.1.cell]; exact cells_get x hj8
      have h64 := hall.out _ (List.getElem_mem hjl)
      have hvl := vis_len (L := x.list.take j) fun n hn => hall.out n (List.mem_of_mem_take hn)
      have htl : (x.list.take j).length ≤ j := List.length_take_le _ _
      have hc := hid (wint_all hI.out.1 (x.list[j]'hjl) h64 (by omega))
      have hsn := hid (vis_snoc x.list hjl)
      generalize x.list[j]'hjl = y at e1 hc hsn
      clear h64 hvl htl hxl
      go_wp2_with fail
      refine hc.out.mono ?_
      rintro e w3 ⟨rfl, h1, h2, h3⟩
      have H1 := hid h1
      have H2 := hid h2
      have H3 := hid h3
      clear h1 h2 h3
      go_wp2_with fail
      go_roundw
      case rel =>
        have hi := hI.out
        have hz := HSZ.out
        refine ⟨j + 1, by omega, by go_num, hid ⟨?_, hi.2.1.only H3.out hi.2.2.2.2.1, hi.2.2.1.only H3.out hi.2.2.2.2.2, hi.2.2.2.1.trans (H2.out.mono (by omega)), hi.2.2.2.2⟩⟩
        rw [hsn.out]
        exact H1.out
      case measure => simp [intOf]; omega
    · obtain rfl : j = 8 := by omega
      have hc := hid (wdone_any (l := vis x.list) hI.out.1 (by
        have := vis_ge x.list
        omega))
      go_wp2_with fail
      refine hc.out.mono ?_
      rintro e w3 ⟨rfl, rfl⟩
      go_wp2_with fail
      go_ret2
      exact ⟨rfl, hI.out.2.2.2.1⟩
end Go.Proofs.YtopbojifllnckaaGreatDoor
