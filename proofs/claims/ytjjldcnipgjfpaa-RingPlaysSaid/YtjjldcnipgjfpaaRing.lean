/- What each function of package ring does, said of an abstract row. -/
import Derived.Test.YtjjldcnipgjfpaaRows
import Derived.Test.YtjjldcnipgjfpaaBase
import Derived.BigQuiet
import Derived.Deep.QuietTactic
import Derived.Deep.RegionWith
import Derived.Deep.RegionLaw
namespace Go.Proofs.Ytjjldcnipgjfpaa
open Go.RowKit
attribute [local go_sem high] run_mxI run_mnI

def strs (l : List ByteArray) : List Value := l.map Value.string

/-- A ring of N slots at block br (its slots at block bl) holds the texts L. -/
structure RingIs (w : World) (br bl N a : Nat) (cs L : List ByteArray) : Prop where
  hd : Blk w br 50 #[.slice (some ⟨bl, 0, none⟩) N N, .int .i64 (a : Int), .int .i64 (L.length : Int)]
  row : Blk w bl 9 (strs cs).toArray
  len : cs.length = N
  pos : 1 ≤ N
  top : N ≤ 64
  at_ : a < N
  fit : L.length ≤ N
  say : ∀ i, i < L.length → cs[(a + i) % N]? = L[i]?

def RingAt (w : World) (br bl N : Nat) (L : List ByteArray) : Prop := ∃ a cs, RingIs w br bl N a cs L

theorem strs_get (l : List ByteArray) (i : Nat) : (strs l).toArray[i]? = (l[i]?).map Value.string := by simp [strs]

set_option maxHeartbeats 400000 in
theorem place_any {a : Nat} {i : Int} {N : Nat} {bl br : Nat} {w : World}
   (h0 : w.cell? ⟨br, 0, none⟩ = some (.slice (some ⟨bl, 0, none⟩) N N))
   (h1 : w.cell? ⟨br, 1, none⟩ = some (.int .i64 (a : Int)))
   (hN : 1 ≤ N) (hN' : N ≤ 64) (ha2 : a < N) (hi : 0 ≤ i) (hi2 : i ≤ N) :
    Calls Try.prog 22 #[.pointer (some ⟨br, 0, none⟩), .int .i64 i] w fun e w' => e = .returned (.int .i64 (((a + i.toNat) % N : Nat) : Int)) ∧ ∃ k, w' = w.drewN k := by
  obtain ⟨n, rfl⟩ := Int.eq_ofNat_of_zero_le hi
  go_enter Try.func22, Try.ntmps22
  go_wp2
  go_quiet (fail)
  go_wp2
  go_ret
  exact ⟨rfl, _, rfl⟩

theorem place_q {a i N m : Nat} {bl br : Nat} {w : World} (h0 : w.cell? ⟨br, 0, none⟩ = some (.slice (some ⟨bl, 0, none⟩) N N)) (h1 : w.cell? ⟨br, 1, none⟩ = some (.int .i64 (a : Int)))
   (hN : 1 ≤ N) (hN' : N ≤ 64) (ha2 : a < N) (hi2 : i ≤ N) (hm : Hid (m = (a + i) % N)) (n : Nat) :
    Calls Try.prog 22 #[.pointer (some ⟨br, 0, none⟩), .int .i64 (i : Int)] (w.drewN n) fun e w' => e = .returned (.int .i64 (m : Int)) ∧ ∃ k, w' = w.drewN k := by
  refine Calls.quiet_of ((place_any (w := w.drewN n) h0 h1 hN hN' ha2 (by omega) (by omega)).mono ?_)
  rintro e w' ⟨rfl, hk⟩
  rw [Int.toNat_natCast, ← hm.out]
  exact ⟨rfl, hk⟩

set_option maxHeartbeats 400000 in
theorem len_any {n : Int} {br : Nat} {w : World} (h0 : w.cell? ⟨br, 2, none⟩ = some (.int .i64 n)) :
    Calls Try.prog 10 #[.pointer (some ⟨br, 0, none⟩)] w fun e w' => e = .returned (.int .i64 n) ∧ w = w' := by
  go_enter Try.func10, Try.ntmps10
  go_wp2
  go_ret
  exact ⟨rfl, rfl⟩

set_option maxHeartbeats 400000 in
theorem len_nil {w : World} :
    Calls Try.prog 10 #[.pointer none] w fun e w' => e = .returned (.int .i64 0) ∧ w = w' := by
  go_enter Try.func10, Try.ntmps10
  go_wp2
  go_ret
  exact ⟨rfl, rfl⟩

set_option maxHeartbeats 400000 in
theorem room_any {n N : Nat} {br bl : Nat} {w : World} (h0 : w.cell? ⟨br, 0, none⟩ = some (.slice (some ⟨bl, 0, none⟩) N N)) (h2 : w.cell? ⟨br, 2, none⟩ = some (.int .i64 (n : Int)))
   (hN' : N ≤ 64) (hn : n ≤ N) :
    Calls Try.prog 11 #[.pointer (some ⟨br, 0, none⟩)] w fun e w' => e = .returned (.int .i64 ((N : Int) - (n : Int))) ∧ ∃ k, w' = w.drewN k := by
  go_enter Try.func11, Try.ntmps11
  go_wp2
  go_quiet (fail)
  go_wp2
  go_ret
  exact ⟨rfl, _, rfl⟩

set_option maxHeartbeats 400000 in
theorem room_nil {w : World} :
    Calls Try.prog 11 #[.pointer none] w fun e w' => e = .returned (.int .i64 0) ∧ w = w' := by
  go_enter Try.func11, Try.ntmps11
  go_wp2
  go_ret
  exact ⟨rfl, rfl⟩

set_option maxHeartbeats 400000 in
theorem peek_nil {i : Int} {w : World} :
    Calls Try.prog 19 #[.pointer none, .int .i64 i] w fun e w' => e = .returned (.tuple #[.string ⟨#[]⟩, .bool false]) ∧ w = w' := by
  go_enter Try.func19, Try.ntmps19
  go_wp2
  go_ret2
  exact ⟨rfl, rfl⟩

set_option maxHeartbeats 400000 in
theorem peek_no {i : Int} {n br : Nat} {w : World} (h2 : w.cell? ⟨br, 2, none⟩ = some (.int .i64 (n : Int))) (hi : i < 0 ∨ (n : Int) ≤ i) :
    Calls Try.prog 19 #[.pointer (some ⟨br, 0, none⟩), .int .i64 i] w fun e w' => e = .returned (.tuple #[.string ⟨#[]⟩, .bool false]) ∧ w = w' := by
  by_cases h : i < 0
  · go_enter Try.func19, Try.ntmps19
    go_wp2
    go_ret2
    exact ⟨rfl, rfl⟩
  · have h' : (n : Int) ≤ i := by omega
    clear hi
    go_enter Try.func19, Try.ntmps19
    go_wp2
    go_ret2
    exact ⟨rfl, rfl⟩

set_option maxHeartbeats 400000 in
theorem peek_yes {a i N n bl br : Nat} {s : ByteArray} {w : World}
   (h0 : w.cell? ⟨br, 0, none⟩ = some (.slice (some ⟨bl, 0, none⟩) N N))
   (h1 : w.cell? ⟨br, 1, none⟩ = some (.int .i64 (a : Int))) (h2 : w.cell? ⟨br, 2, none⟩ = some (.int .i64 (n : Int)))
   (hN : 1 ≤ N) (hN' : N ≤ 64) (ha2 : a < N) (hi : i < n) (hn : n ≤ N)
   (hs : w.cell? ⟨bl, (a + i) % N, none⟩ = some (.string s)) :
    Calls Try.prog 19 #[.pointer (some ⟨br, 0, none⟩), .int .i64 (i : Int)] w fun e w' => e = .returned (.tuple #[.string s, .bool true]) ∧ ∃ k, w' = w.drewN k := by
  have hlt : (a + i) % N < N := Nat.mod_lt _ (by omega)
  obtain ⟨m, hm⟩ : ∃ m, m = (a + i) % N := ⟨_, rfl⟩
  rw [← hm] at hs hlt
  have HM := hid hm
  clear hm
  go_enter Try.func19, Try.ntmps19
  go_wp2
  go_quiet ((go_at_call 22; exact place_q h0 h1 hN hN' ha2 (Nat.le_of_lt (Nat.lt_of_lt_of_le hi hn)) HM _))
  go_wp2
  go_ret2
  exact ⟨rfl, _, rfl⟩

set_option maxHeartbeats 400000 in
theorem put_nil {s : ByteArray} {w : World} :
    Calls Try.prog 9 #[.pointer none, .string s] w fun e w' => e = .returned (.bool false) ∧ ∃ k, w' = w.drewN k := by
  go_enter Try.func9, Try.ntmps9
  go_wp2
  go_quiet (fail)
  go_wp2
  go_ret
  exact ⟨rfl, _, rfl⟩

set_option maxHeartbeats 400000 in
theorem put_full {s : ByteArray} {n N : Nat} {bl br : Nat} {w : World} (h0 : w.cell? ⟨br, 0, none⟩ = some (.slice (some ⟨bl, 0, none⟩) N N)) (h2 : w.cell? ⟨br, 2, none⟩ = some (.int .i64 (n : Int))) (hn : N ≤ n) :
    Calls Try.prog 9 #[.pointer (some ⟨br, 0, none⟩), .string s] w fun e w' => e = .returned (.bool false) ∧ ∃ k, w' = w.drewN k := by
  have hd : decide (N ≤ n) = true := by simpa using hn
  go_enter Try.func9, Try.ntmps9
  go_wp2
  go_quiet (fail)
  go_wp2
  go_ret
  exact ⟨rfl, _, rfl⟩

set_option maxHeartbeats 400000 in
theorem put_long {s : ByteArray} {n N : Nat} {bl br : Nat} {w : World} (h0 : w.cell? ⟨br, 0, none⟩ = some (.slice (some ⟨bl, 0, none⟩) N N)) (h2 : w.cell? ⟨br, 2, none⟩ = some (.int .i64 (n : Int))) (hn : n < N) (hs : 65536 < s.size) :
    Calls Try.prog 9 #[.pointer (some ⟨br, 0, none⟩), .string s] w fun e w' => e = .returned (.bool false) ∧ ∃ k, w' = w.drewN k := by
  have hd : decide (N ≤ n) = false := by simpa using hn
  go_enter Try.func9, Try.ntmps9
  go_wp2
  go_quiet (fail)
  go_wp2
  go_ret
  exact ⟨rfl, _, rfl⟩

set_option maxHeartbeats 400000 in
theorem put_yes {s u : ByteArray} {a n N : Nat} {bl br : Nat} {w : World} (h0 : w.cell? ⟨br, 0, none⟩ = some (.slice (some ⟨bl, 0, none⟩) N N)) (h1 : w.cell? ⟨br, 1, none⟩ = some (.int .i64 (a : Int))) (h2 : w.cell? ⟨br, 2, none⟩ = some (.int .i64 (n : Int)))
    (hN : 1 ≤ N) (hN' : N ≤ 64) (ha2 : a < N) (hn : n < N) (hs : s.size ≤ 65536)
    (hu : w.cell? ⟨bl, (a + n) % N, none⟩ = some (.string u)) (hf : w.frozen? ⟨bl, (a + n) % N, none⟩ = false) (hf2 : w.frozen? ⟨br, 2, none⟩ = false) (hne : ¬ br = bl) :
    Calls Try.prog 9 #[.pointer (some ⟨br, 0, none⟩), .string s] w fun e w' => e = .returned (.bool true) ∧ ∃ k, w' = ((w.setCell ⟨bl, (a + n) % N, none⟩ (.string s)).setCell ⟨br, 2, none⟩ (.int .i64 ((n : Int) + 1))).drewN k := by
  have hd : decide (N ≤ n) = false := by simpa using hn
  have hlt : (a + n) % N < N := Nat.mod_lt _ (by omega)
  obtain ⟨m, hm⟩ : ∃ m, m = (a + n) % N := ⟨_, rfl⟩
  rw [← hm] at hu hlt hf ⊢
  have HM := hid hm
  clear hm
  go_enter Try.func9, Try.ntmps9
  go_wp2
  go_quiet (fail)
  go_wp2
  go_region_with (go_at_call 22; refine (place_q h0 h1 hN hN' ha2 (Nat.le_of_lt hn) HM _).mono ?_; rintro e w' ⟨rfl, k, rfl⟩)
  all_goals go_wp2
  all_goals go_ret
  all_goals exact ⟨rfl, _, rfl⟩

set_option maxHeartbeats 400000 in
theorem drop_none {x : Int} {n br : Nat} {w : World} (h2 : w.cell? ⟨br, 2, none⟩ = some (.int .i64 (n : Int))) (hx : mnI (mxI x 0) n = 0) :
    Calls Try.prog 18 #[.pointer (some ⟨br, 0, none⟩), .int .i64 x] w fun e w' => e = .returned (.int .i64 0) ∧ w = w' := by
  go_enter Try.func18, Try.ntmps18
  go_wp2_with (go_at_call 10; refine (len_any h2).mono ?_; rintro e w' ⟨rfl, rfl⟩)
  go_ret
  exact ⟨rfl, rfl⟩

set_option maxHeartbeats 400000 in
theorem drop_nil {x : Int} {w : World} (hx : mnI (mxI x 0) 0 = 0) :
    Calls Try.prog 18 #[.pointer none, .int .i64 x] w fun e w' => e = .returned (.int .i64 0) ∧ w = w' := by
  go_enter Try.func18, Try.ntmps18
  go_wp2_with (go_at_call 10; refine len_nil.mono ?_; rintro e w' ⟨rfl, rfl⟩)
  go_ret
  exact ⟨rfl, rfl⟩

/-- What the clearing rounds of Drop keep: from the k-th on each text is where it was. -/
def DropInv (w wr : World) (bl N a k : Nat) (L : List ByteArray) : Prop :=
  ∃ cs : List ByteArray, cs.length = N ∧ Blk wr bl 9 (strs cs).toArray ∧ Only (· = bl) w wr ∧ ∀ i, k ≤ i → i < L.length → cs[(a + i) % N]? = L[i]?

theorem mod_apart {a i k N : Nat} (hi : i < N) (hk : k < N) (hne : i ≠ k) : (a + i) % N ≠ (a + k) % N := by
  intro h
  have h1 := Nat.div_add_mod (a + i) N
  have h2 := Nat.div_add_mod (a + k) N
  rw [h] at h1
  have h3 : (a + i : Int) - (a + k) = N * (((a + i) / N : Nat) : Int) - N * (((a + k) / N : Nat) : Int) := by
    have e1 : ((N * ((a + i) / N) + (a + k) % N : Nat) : Int) = ((a + i : Nat) : Int) := by rw [h1]
    have e2 : ((N * ((a + k) / N) + (a + k) % N : Nat) : Int) = ((a + k : Nat) : Int) := by rw [h2]
    simp only [Int.natCast_add, Int.natCast_mul] at e1 e2
    omega
  rw [← Int.mul_sub] at h3
  generalize ((((a + i) / N : Nat) : Int) - (((a + k) / N : Nat) : Int)) = q at h3
  rcases Int.lt_trichotomy q 0 with hq | hq | hq
  · have : (N : Int) * q ≤ N * (-1) := Int.mul_le_mul_of_nonneg_left (by omega) (by omega)
    omega
  · subst hq
    simp at h3
    omega
  · have : (N : Int) * 1 ≤ N * q := Int.mul_le_mul_of_nonneg_left (by omega) (by omega)
    omega

theorem DropInv.step {w wr : World} {bl N a k : Nat} {L : List ByteArray} (h : DropInv w wr bl N a k L) (hL : L.length ≤ N) (n : Nat) :
    DropInv w ((wr.setCell ⟨bl, (a + k) % N, none⟩ (.string ⟨#[]⟩)).drewN n) bl N a (k + 1) L := by
  obtain ⟨cs, hl, hb, ho, hs⟩ := h
  refine ⟨cs.set ((a + k) % N) ⟨#[]⟩, by simpa using hl, ?_, (ho.setCell (.inl rfl) _).drewN n, fun i hi hiL => ?_⟩
  · have := (hb.set_ ((a + k) % N) (.string ⟨#[]⟩)).drewN n
    simpa [strs, List.map_set] using this
  · rw [List.getElem?_set_ne (mod_apart (by omega) (by omega) (by omega))]
    exact hs i (by omega) hiL
theorem DropInv.cell {w wr : World} {bl N a k : Nat} {L : List ByteArray} (h : DropInv w wr bl N a k L) (hk : k < L.length) :
    ∃ u, wr.cell? ⟨bl, (a + k) % N, none⟩ = some (.string u) ∧ wr.frozen? ⟨bl, (a + k) % N, none⟩ = false := by
  obtain ⟨cs, hl, hb, ho, hs⟩ := h
  refine ⟨L[k], ?_, hb.frozen _⟩
  rw [hb.cell, strs_get, hs k (Nat.le_refl _) hk, List.getElem?_eq_getElem hk]
  rfl

set_option maxHeartbeats 800000 in
theorem drop_some {x : Int} {m N a br bl : Nat} {cs L : List ByteArray} {w : World} (h : RingIs w br bl N a cs L) (hm : mnI (mxI x 0) L.length = m) (hm1 : 1 ≤ m) (hm2 : m ≤ L.length) :
    Calls Try.prog 18 #[.pointer (some ⟨br, 0, none⟩), .int .i64 x] w fun e w' => e = .returned (.int .i64 m) ∧
      ∃ wr k, DropInv w wr bl N a m L ∧ w' = ((wr.setCell ⟨br, 1, none⟩ (.int .i64 ((a + m) % N : Nat))).setCell ⟨br, 2, none⟩ (.int .i64 ((L.length : Int) - m))).drewN k := by
  have h2 : w.cell? ⟨br, 2, none⟩ = some (.int .i64 (L.length : Int)) := by rw [h.hd.cell]; rfl
  have hb := h.hd.ne_ h.row (by decide)
  have HS := hid h
  have hN := h.pos
  have hN' := h.top
  have ha := h.at_
  have hL := h.fit
  clear h
  have hz : ((m : Int) == 0) = false := by simp; omega
  go_enter Try.func18, Try.ntmps18
  go_wp2_with (go_at_call 10; refine (len_any h2).mono ?_; rintro e w' ⟨rfl, rfl⟩)
  clear hm h2
  go_loopw [14] (fun v wr => ∃ k : Nat, k ≤ m ∧ v = .int .i64 k ∧ DropInv w wr bl N a k L) (fun v _ => m - (intOf v).toNat)
  case atStart => exact ⟨0, by omega, rfl, cs, HS.out.len, HS.out.row, Only.refl _ _, fun i _ hi => HS.out.say i hi⟩
  case round =>
    obtain ⟨k, hk, rfl, hinv⟩ := hrel
    by_cases hkm : k < m
    · obtain ⟨u, hu, hf⟩ := hinv.cell (by omega)
      have h0 : wr.cell? ⟨br, 0, none⟩ = some (.slice (some ⟨bl, 0, none⟩) N N) := by
        obtain ⟨_, _, _, ho, _⟩ := hinv
        rw [(HS.out.hd.only ho hb).cell]; rfl
      have h1 : wr.cell? ⟨br, 1, none⟩ = some (.int .i64 (a : Int)) := by
        obtain ⟨_, _, _, ho, _⟩ := hinv
        rw [(HS.out.hd.only ho hb).cell]; rfl
      obtain ⟨p, hp⟩ : ∃ p, p = (a + k) % N := ⟨_, rfl⟩
      have hstep := fun n => hid (hinv.step hL n)
      have hlt : (a + k) % N < N := Nat.mod_lt _ (by omega)
      rw [← hp] at hu hf hlt hstep
      have HP := hid hp
      clear hp
      go_wp2
      go_region_with (go_at_call 22; refine (place_q h0 h1 hN hN' ha (by omega) HP _).mono ?_; rintro e w' ⟨rfl, j, rfl⟩)
      all_goals go_wp2
      all_goals go_roundw
      all_goals first
        | exact ⟨k + 1, by omega, by go_num, (hstep _).out⟩
        | (simp [intOf]; omega)
    · obtain rfl : k = m := by omega
      have hwb : Blk wr br 50 #[.slice (some ⟨bl, 0, none⟩) N N, .int .i64 (a : Int), .int .i64 (L.length : Int)] := by
        obtain ⟨_, _, _, ho, _⟩ := hinv
        exact HS.out.hd.only ho hb
      have h0 : wr.cell? ⟨br, 0, none⟩ = some (.slice (some ⟨bl, 0, none⟩) N N) := by rw [hwb.cell]; rfl
      have h1 : wr.cell? ⟨br, 1, none⟩ = some (.int .i64 (a : Int)) := by rw [hwb.cell]; rfl
      have h2 : wr.cell? ⟨br, 2, none⟩ = some (.int .i64 (L.length : Int)) := by rw [hwb.cell]; rfl
      have f1 := hwb.frozen 1
      have f2 := hwb.frozen 2
      have HI := hid hinv
      have HSUB := hid (show IntKind.i64.wrap ((L.length : Int) - (k : Int)) = (L.length : Int) - (k : Int) by rw [IntKind.wrap_i64]; omega)
      clear hinv hwb
      obtain ⟨p, hp⟩ : ∃ p, p = (a + k) % N := ⟨_, rfl⟩
      have HP := hid hp
      clear hp
      go_wp2
      go_region_with (go_at_call 22; refine (place_q h0 h1 hN hN' ha (by omega) HP _).mono ?_; rintro e w' ⟨rfl, j, rfl⟩)
      all_goals go_wp2
      all_goals go_ret
      all_goals obtain rfl := HP.out
      all_goals first
        | exact ⟨rfl, wr, _, HI.out, rfl⟩
        | (refine ⟨rfl, wr, j, HI.out, ?_⟩; rw [HSUB.out]; rfl)

theorem info9 : (Try.prog.info? 9).map (fun i => (i.zero, i.size, i.bytes)) = some (some (.string ⟨#[]⟩), 1, 16) := by kernel_rfl

theorem strs_one (l : List ByteArray) : ∀ u ∈ strs l, u.oneCell' = true := by
  intro u hu
  simp only [strs, List.mem_map] at hu
  obtain ⟨_, _, rfl⟩ := hu
  rfl
theorem strs_append (a b : List ByteArray) : strs (a ++ b) = strs a ++ strs b := by simp [strs]
theorem strs_length (a : List ByteArray) : (strs a).length = a.length := by simp [strs]

theorem all_list {N a E : Nat} {cs L : List ByteArray} (hl : cs.length = N) (ha : a < N) (hL : L.length ≤ N) (hE : (E : Int) = mnI ((a : Int) + L.length) N) (hs : ∀ i, i < L.length → cs[(a + i) % N]? = L[i]?) :
    L = ((cs.drop a).take (E - a)) ++ (cs.take (L.length - (E - a))) := by
  unfold mnI at hE
  apply List.ext_getElem?
  intro i
  rw [List.getElem?_append]
  by_cases hi : i < L.length
  · rw [← hs i hi]
    by_cases hf : i < E - a
    · have hEa : a + i < N := by split at hE <;> omega
      rw [if_pos (by rw [List.length_take, List.length_drop]; omega), List.getElem?_take, if_pos hf, List.getElem?_drop, Nat.mod_eq_of_lt hEa]
    · have hEN : E = N ∧ N ≤ a + i := by split at hE <;> omega
      have hlen : ((cs.drop a).take (E - a)).length = E - a := by rw [List.length_take, List.length_drop]; omega
      rw [hlen, if_neg hf, List.getElem?_take, if_pos (by omega)]
      have : (a + i) % N = i - (E - a) := by
        rw [Nat.mod_eq_sub_mod hEN.2, Nat.mod_eq_of_lt (by omega)]
        omega
      rw [this]
  · have hlen : ((cs.drop a).take (E - a)).length = E - a := by rw [List.length_take, List.length_drop]; split at hE <;> omega
    rw [List.getElem?_eq_none (by omega), hlen, if_neg (by split at hE <;> omega), List.getElem?_take, if_neg (by omega)]

set_option maxHeartbeats 800000 in
theorem all_walk {N a E n br bl : Nat} {F G : List Value} {w : World} (h0 : w.cell? ⟨br, 0, none⟩ = some (.slice (some ⟨bl, 0, none⟩) N N)) (h1 : w.cell? ⟨br, 1, none⟩ = some (.int .i64 (a : Int)))
    (h2 : w.cell? ⟨br, 2, none⟩ = some (.int .i64 (n : Int))) (hN' : N ≤ 64) (ha : a < N) (hn : n ≤ N) (hn1 : 1 ≤ n) (hmn : mnI ((a : Int) + n) N = E) (hE1 : a < E) (hE2 : E ≤ N) (hE3 : E - a ≤ n)
    (hr1 : Hid (Holds w w.heap.size (some ⟨bl, a, none⟩) F)) (hr2 : Hid (Holds w w.heap.size (some ⟨bl, 0, none⟩) G)) (hl1 : Hid (F.length = E - a)) (hl2 : Hid (G.length = n - (E - a)))
    (ho1 : Hid (∀ u ∈ F, u.oneCell' = true)) (ho2 : Hid (∀ u ∈ G, u.oneCell' = true)) :
    Calls Try.prog 21 #[.pointer (some ⟨br, 0, none⟩)] w fun e w' => ∃ v, e = .returned v ∧ w'.ownsRow w.heap.size 9 1 v (F ++ G).length (F ++ G) ∧ Below w.heap.size w w' := by
  have hsum : IntKind.i64.wrap ((a : Int) + (n : Int)) = (a : Int) + (n : Int) := by rw [IntKind.wrap_i64]; omega
  have hz : ((n : Int) == 0) = false := beq_eq_false_iff_ne.2 (by omega)
  have hbr := hid (show br < w.heap.size from World.block_lt_of_cell? w ⟨br, 0, none⟩ h0)
  have hsz1 := hid (show (([] : List Value).length + F.length) * 16 ≤ 140737488355328 by rw [hl1.out]; simp; omega)
  have hsz2 := hid (show (([] ++ F : List Value).length + G.length) * 16 ≤ 140737488355328 by rw [List.nil_append, hl1.out, hl2.out]; omega)
  go_enter Try.func21, Try.ntmps21
  go_wp2_with (go_at_call 10; refine (len_any h2).mono ?_; rintro e w' ⟨rfl, rfl⟩)
  go_quiet (fail)
  go_wp2
  go_quiet (fail)
  go_wp2_with (at_builtin; refine wpList_app _ rfl (.const (.slice none 0 0)) (.tmp 35) 32 9 (.string ⟨#[]⟩) 16 rfl Try.underlying32 info9 rfl (by decide) w.heap.size (.slice none 0 0) [] rfl ?own w.heap.size (some ⟨bl, a, none⟩) (E - a) (E - a) F rfl hl1.out ?hold ho1.out hsz1.out ?base ?_)
  case own => exact World.ownsRow_nil w w.heap.size 9 1
  case hold => exact hr1.out
  case base => exact Nat.le_refl _
  intro v1 w1 hown1 hg1 _
  have hb1 : Below w.heap.size w w1 := ⟨hg1.os, hg1.tape, hg1.output, hg1.size, fun k hk => hg1.block k hk (by simp [Value.ownBlock])⟩
  have c0 : w1.cell? ⟨br, 0, none⟩ = some (.slice (some ⟨bl, 0, none⟩) N N) := (hb1.cell hbr.out).trans h0
  have c2 : w1.cell? ⟨br, 2, none⟩ = some (.int .i64 (n : Int)) := (hb1.cell hbr.out).trans h2
  obtain ⟨A1, k1, hv⟩ := own_form hown1
  subst hv
  have HB := hid hb1
  have HO := hid hown1
  have HG := hid hg1
  clear h0 h1 h2 hb1 hown1 hg1
  have hsub : IntKind.i64.wrap ((n : Int) - ((E - a : Nat) : Int)) = ((n - (E - a) : Nat) : Int) := by rw [IntKind.wrap_i64]; omega
  have hle : n ≤ N + (E - a) := by omega
  have hsz3 := hid (show (F.length + G.length) * 16 ≤ 140737488355328 by rw [hl1.out, hl2.out]; omega)
  go_wp2
  go_region_law (refine step_app _ rfl (.tmp 37) (.tmp 49) 32 9 (.string ⟨#[]⟩) 16 rfl Try.underlying32 info9 rfl (by decide) w.heap.size (.slice A1 F.length k1) F rfl (by exact HO.out) w.heap.size (some ⟨bl, 0, none⟩) N (n - (E - a)) G rfl hl2.out (by exact hr2.out.below HB.out.drew) ho2.out hsz3.out (by exact HB.out.size) ?_; intro v2 w2 hown2 hg2 hat2; have HO2 := hid hown2; have HG2 := hid hg2; clear hown2 hg2 hat2)
  all_goals go_wp2
  all_goals go_ret
  all_goals exact ⟨_, rfl, HO2.out, HB.out.drew.grown HG2.out HB.out.size fun k hk => (HO.out.lt k hk).1⟩

theorem all_some {N a br bl : Nat} {cs L : List ByteArray} {w : World} (h : RingIs w br bl N a cs L) (hL1 : 1 ≤ L.length) :
    Calls Try.prog 21 #[.pointer (some ⟨br, 0, none⟩)] w fun e w' => ∃ v, e = .returned v ∧ w'.ownsRow w.heap.size 9 1 v (strs L).length (strs L) ∧ Below w.heap.size w w' := by
  have ha := h.at_
  have hL := h.fit
  have hl := h.len
  obtain ⟨E, hE⟩ : ∃ E : Nat, (E : Int) = mnI ((a : Int) + L.length) N := ⟨(mnI ((a : Int) + L.length) N).toNat, by unfold mnI; split <;> omega⟩
  have hE1 : a < E ∧ E ≤ N ∧ E - a ≤ L.length := by unfold mnI at hE; split at hE <;> (refine ⟨?_, ?_, ?_⟩ <;> omega)
  have hlist := all_list h.len h.at_ h.fit hE h.say
  have e1 : strs L = strs ((cs.drop a).take (E - a)) ++ strs (cs.take (L.length - (E - a))) := by rw [← strs_append, ← hlist]
  have f1 : strs ((cs.drop a).take (E - a)) = ((strs cs).toArray.toList.drop a).take (E - a) := by simp [strs]
  have f2 : strs (cs.take (L.length - (E - a))) = ((strs cs).toArray.toList.drop 0).take (L.length - (E - a)) := by simp [strs]
  rw [e1]
  refine all_walk (by rw [h.hd.cell]; rfl) (by rw [h.hd.cell]; rfl) (by rw [h.hd.cell]; rfl) h.top ha hL hL1 hE.symm hE1.1 hE1.2.1 hE1.2.2 ?_ ?_ ?_ ?_ (hid (strs_one _)) (hid (strs_one _))
  · rw [f1]; exact Holds.of_blk h.row a (E - a) h.row.lt
  · rw [f2]; exact Holds.of_blk h.row 0 (L.length - (E - a)) h.row.lt
  · exact hid (by rw [strs_length, List.length_take, List.length_drop]; omega)
  · exact hid (by rw [strs_length, List.length_take]; omega)

set_option maxHeartbeats 400000 in
theorem all_none {br : Nat} {w : World} (h2 : w.cell? ⟨br, 2, none⟩ = some (.int .i64 0)) :
    Calls Try.prog 21 #[.pointer (some ⟨br, 0, none⟩)] w fun e w' => e = .returned (.slice none 0 0) ∧ w = w' := by
  go_enter Try.func21, Try.ntmps21
  go_wp2_with (go_at_call 10; refine (len_any h2).mono ?_; rintro e w' ⟨rfl, rfl⟩)
  go_ret
  exact ⟨rfl, rfl⟩

set_option maxHeartbeats 400000 in
theorem all_nil {w : World} :
    Calls Try.prog 21 #[.pointer none] w fun e w' => e = .returned (.slice none 0 0) ∧ w = w' := by
  go_enter Try.func21, Try.ntmps21
  go_wp2_with (go_at_call 10; refine len_nil.mono ?_; rintro e w' ⟨rfl, rfl⟩)
  go_ret
  exact ⟨rfl, rfl⟩


end Go.Proofs.Ytjjldcnipgjfpaa
