/- codec.Writer: an int, a byte, ints, all bytes; what a manager tells. codec.Writer: ints; what a manager tells. codec.groups: a number's bytes read back. codec.Reader: take, an int, a byte, the end. -/
import Derived.Test.YtopbojifllnckaaGreatDoorG20
namespace Go.Proofs.YtopbojifllnckaaGreatDoor
open Go.RowKit
attribute [local irreducible] wpQuiet
section
variable {w : World} {base g : Nat} {l : List UInt8}
theorem WrAt.lt (h : WrAt w base g l) : g < w.heap.size := by obtain ⟨_, A, c, h, _⟩ := h; exact h.lt
theorem WrAt.low (h : WrAt w base g l) : base ≤ w.heap.size := Nat.le_of_lt (Nat.lt_of_le_of_lt h.1 h.lt)
theorem WrAt.below {w' : World} (h : WrAt w base g l) (hb : Below w.heap.size w w') : WrAt w' base g l := by
  obtain ⟨h1, A, c, h2, h3⟩ := h
  exact ⟨h1, A, c, h2.below hb h2.lt, own_keep h3 fun k _ hk => hb.block k hk⟩
theorem lays_int (k : Int) (hk : I64 k) (w : World) : Lays (w.alloc (.cells #[.int .i64 k] 3)) (.func (.func 214) #[] #[.pointer (some ⟨w.heap.size, 0, none⟩)]) (vi (zz k)) := by
  refine ⟨214, w.heap.size, rfl, .inr (.inr rfl), fun q v n xs hv hn => ?_⟩
  have e0 : (w.alloc (.cells #[.int .i64 k] 3)).cell? ⟨w.heap.size, 0, none⟩ = some (.int .i64 k) := by rw [(Blk.new w 3 _).cell]; rfl
  obtain ⟨W, hW⟩ : ∃ W, W = w.alloc (.cells #[.int .i64 k] 3) := ⟨_, rfl⟩
  rw [← hW] at hv e0 ⊢
  clear hW
  have hc := hid (number_any (W.drewN q) W.heap.size v n xs k hv (Nat.le_refl _) (by omega) hk.1 hk.2)
  have HK := hid hk
  clear hv hk
  go_enter Tryz.func214, Tryz.ntmps214
  go_wp2_with fail
  refine hc.out.mono ?_
  rintro e w' ⟨v', rfl, h1, h2⟩
  have H1 := hid h1
  have H2 := hid h2
  clear h1 h2
  go_wp2_with fail
  go_ret
  exact ⟨v', rfl, H1.out, H2.out⟩
theorem wint_all (h : WrAt w base g l) (k : Int) (hk : I64 k) (hl : l.length + 10 ≤ 65536) :
    Calls Tryz.prog 139 #[.pointer (some ⟨g, 0, none⟩), .int .i64 k] w fun e w' => e = .returned (.tuple #[]) ∧ WrAt w' base g (l ++ vi (zz k)) ∧ Below base w w' ∧ Only (· = g) w w' := by
  have hten := vi_ten (zz_lt hk.1 hk.2)
  have hW := h.below ((Below.refl _ _).alloc (Nat.le_refl _) (.cells #[.int .i64 k] 3))
  have hc := hid (lay_all hW _ _ (lays_int k hk w) (by omega))
  have ho := hid ((Only.refl (· = g) w).alloc (.cells #[.int .i64 k] 3))
  have hb := hid ((Below.refl base w).alloc h.low (.cells #[.int .i64 k] 3))
  clear hk h hW
  go_enter Tryz.func139, Tryz.ntmps139
  go_wp2_with fail
  refine hc.out.mono ?_
  rintro e w' ⟨rfl, h1, h2, h3⟩
  have H1 := hid h1
  have H2 := hid h2
  have H3 := hid h3
  clear h1 h2 h3
  go_wp2_with fail
  go_end0
  exact ⟨rfl, H1.out, hb.out.trans H2.out, ho.out.trans H3.out⟩
theorem wint_any (h : WrAt w base g l) (k : Int) (hk : I64 k) (hl : l.length + 10 ≤ 65536) :
    Calls Tryz.prog 139 #[.pointer (some ⟨g, 0, none⟩), .int .i64 k] w fun e w' => e = .returned (.tuple #[]) ∧ WrAt w' base g (l ++ vi (zz k)) ∧ Below base w w' :=
  (wint_all h k hk hl).mono fun _ _ ⟨h1, h2, h3, _⟩ => ⟨h1, h2, h3⟩
theorem lays_byte (k : Nat) (hk : k < 256) (w : World) : Lays (w.alloc (.cells #[.int .i64 k] 3)) (.func (.func 149) #[] #[.pointer (some ⟨w.heap.size, 0, none⟩)]) [UInt8.ofNat k] := by
  refine ⟨149, w.heap.size, rfl, .inl rfl, fun q v n xs hv hn => ?_⟩
  have e0 : (w.alloc (.cells #[.int .i64 k] 3)).cell? ⟨w.heap.size, 0, none⟩ = some (.int .i64 k) := by rw [(Blk.new w 3 _).cell]; rfl
  obtain ⟨W, hW⟩ : ∃ W, W = w.alloc (.cells #[.int .i64 k] 3) := ⟨_, rfl⟩
  rw [← hW] at hv e0 ⊢
  clear hW
  have hby : Hid (byc [UInt8.ofNat k] = [.int .u8 (k : Int)]) := by
    show _ = _
    simp only [byc, List.map_cons, List.map_nil]
    rw [UInt8.toNat_ofNat', Nat.mod_eq_of_lt (by omega)]
  have HV := hid hv
  clear hv
  go_enter Tryz.func149, Tryz.ntmps149
  go_wp2_with (at_builtin; refine wpList_app1 _ rfl (.tmp 4) (.tmp 7) 172 5 (.int .u8 0) 1 rfl Tryz.underlying172 info5 rfl (by decide) W.heap.size v n xs rfl HV.out _ rfl rfl (by omega) (Nat.le_refl _) ?_; intro v' w' h1 h2; have H1 := hid h1; have H2 := hid h2; clear h1 h2)
  go_ret
  exact ⟨v', rfl, by rw [hby.out]; exact H1.out, H2.out⟩
set_option maxHeartbeats 800000 in
theorem wbyte_any (h : WrAt w base g l) (k : Nat) (hk : k < 256) (hl : l.length + 1 ≤ 65536) :
    Calls Tryz.prog 85 #[.pointer (some ⟨g, 0, none⟩), .int .i64 k] w fun e w' => e = .returned (.tuple #[]) ∧ WrAt w' base g (l ++ [UInt8.ofNat k]) ∧ Below base w w' := by
  have hW := h.below ((Below.refl _ _).alloc (Nat.le_refl _) (.cells #[.int .i64 k] 3))
  have hc := hid (lay_any hW _ _ (lays_byte k hk w) (by simp; omega))
  have hb := hid ((Below.refl base w).alloc h.low (.cells #[.int .i64 k] 3))
  have hlt := h.lt
  have e2 : w.cell? ⟨g, 2, none⟩ = some (.int .i64 0) := by obtain ⟨_, A, c, h, _⟩ := h; rw [h.cell]; rfl
  have e2' := World.new_ne w ⟨g, 2, none⟩ e2
  clear h hW
  go_enter Tryz.func85, Tryz.ntmps85
  go_wp2_with fail
  refine hc.out.mono ?_
  rintro e w' ⟨rfl, h1, h2⟩
  have H1 := hid h1
  have H2 := hid h2
  clear h1 h2
  go_wp2_with fail
  go_end0
  exact ⟨rfl, H1.out, hb.out.trans H2.out⟩
theorem wdone_any (h : WrAt w base g l) (hl : 0 < l.length) :
    Calls Tryz.prog 87 #[.pointer (some ⟨g, 0, none⟩)] w fun e w' => e = .returned (.tuple #[.string ⟨l.toArray⟩, .int .i64 0]) ∧ w = w' := by
  obtain ⟨_, A, c, hb, hr⟩ := h
  have e1 : w.cell? ⟨g, 1, none⟩ = some (.slice A l.length c) := by rw [hb.cell]; rfl
  have e2 : w.cell? ⟨g, 2, none⟩ = some (.int .i64 0) := by rw [hb.cell]; rfl
  obtain ⟨g', cap, h1, hcv⟩ := own_string hr hl
  cases h1
  clear hb hr
  go_enter Tryz.func87, Tryz.ntmps87
  go_wp2_with fail
  go_ret2
  exact ⟨rfl, rfl⟩
end
end Go.Proofs.YtopbojifllnckaaGreatDoor
namespace Go.Proofs.YtopbojifllnckaaGreatDoor
open Go.RowKit
attribute [local irreducible] wpQuiet
/-- Numbers as cells. -/
def nums (L : List Int) : List Value := L.map (Value.int .i64 ·)
theorem nums_length (L : List Int) : (nums L).length = L.length := by simp [nums]
theorem nums_get {L : List Int} {j : Nat} (hj : j < L.length) : (nums L)[j]? = some (.int .i64 L[j]) := by simp [nums, hj]
theorem vis_snoc (L : List Int) {j : Nat} (hj : j < L.length) : vis (L.take (j + 1)) = vis (L.take j) ++ vi (zz L[j]) := by
  unfold vis
  rw [List.take_succ_eq_append_getElem hj, List.flatMap_append]
  congr 1
  simp
theorem vis_len {L : List Int} (h : ∀ n ∈ L, I64 n) : (vis L).length ≤ 10 * L.length := by
  induction L with
  | nil => simp [vis]
  | cons a L ih =>
    have h1 := vi_ten (zz_lt (h a List.mem_cons_self).1 (h a List.mem_cons_self).2)
    have h2 := ih fun n hn => h n (List.mem_cons_of_mem _ hn)
    simp only [vis, List.flatMap_cons, List.length_append, List.length_cons] at h2 ⊢
    omega
/-- The bytes of a list of ints. -/
def ibs (L : List Int) : List UInt8 := vi (zz L.length) ++ vis L
theorem ibs_len {L : List Int} (h : ∀ n ∈ L, I64 n) : (ibs L).length ≤ (vi (zz L.length)).length + 10 * L.length := by
  have := vis_len h
  unfold ibs
  rw [List.length_append]
  omega
def IntsRel (W : World) (q : Nat) (n : Nat) (xs : List Value) (L : List Int) (j : Nat) (v : Value) (wr : World) : Prop :=
  wr.ownsRow W.heap.size 5 1 v (n + ((vi (zz L.length)) ++ vis (L.take j)).length) (xs ++ byc (vi (zz L.length) ++ vis (L.take j))) ∧ Below W.heap.size (W.drewN q) wr
section
variable {w : World} {base g : Nat} {l : List UInt8} {B c : Nat} {A : Option Addr} {L : List Int}
theorem small64 {n : Nat} (h : n ≤ 1000000) : I64 (n : Int) := ⟨by omega, by omega⟩
set_option maxHeartbeats 800000 in
theorem lays_ints {N : Nat} (hN : L.length = N) (hh : Holds w B A (nums L)) (hB : B ≤ w.heap.size) (hL : ∀ n ∈ L, I64 n) (hs : N ≤ 100) :
    Lays (w.alloc (.cells #[.slice A N c] 26)) (.func (.func 150) #[] #[.pointer (some ⟨w.heap.size, 0, none⟩)]) (ibs L) := by
  refine ⟨150, w.heap.size, rfl, .inr (.inl rfl), fun q v n xs hv hn => ?_⟩
  have e0 : (w.alloc (.cells #[.slice A N c] 26)).cell? ⟨w.heap.size, 0, none⟩ = some (.slice A N c) := by rw [(Blk.new w 26 _).cell]; rfl
  have hsz : B ≤ (w.alloc (.cells #[.slice A N c] 26)).heap.size := by simp; omega
  have hh' := hh.keep fun k hk => Below.heap_alloc w (.cells #[.slice A N c] 26) k (by omega)
  have hp : w.heap.size < (w.alloc (.cells #[.slice A N c] 26)).heap.size := by simp
  obtain ⟨p, hp0⟩ : ∃ p, p = w.heap.size := ⟨_, rfl⟩
  rw [← hp0] at e0 hp ⊢
  obtain ⟨W, hW⟩ : ∃ W, W = w.alloc (.cells #[.slice A N c] 26) := ⟨_, rfl⟩
  rw [← hW] at hv e0 hsz hh' hp ⊢
  clear hW hh hB hp0
  have h64 := small64 (n := N) (by omega)
  have hc := hid (number_any (W.drewN q) W.heap.size v n xs N hv (Nat.le_refl _) (by omega) h64.1 h64.2)
  have hv10 := vi_ten (zz_lt h64.1 h64.2)
  have HH := hid hh'
  have HL := hid hL
  have HN := hid hN
  clear hv hh' hL hN h64
  go_enter Tryz.func150, Tryz.ntmps150
  go_wp2_with fail
  refine hc.out.mono ?_
  rintro e w1 ⟨v1, rfl, h1, h2⟩
  have e1 : w1.cell? ⟨p, 0, none⟩ = some (.slice A N c) := by rw [h2.cell (p := ⟨p, 0, none⟩) hp]; exact e0
  have H1 := hid h1
  have H2 := hid h2
  clear h1 h2
  go_wp2_with fail
  go_loopw [0, 12] (fun v0 v12 wr => ∃ j : Nat, j ≤ N ∧ v12 = .int .i64 j ∧ Hid (IntsRel W q n xs L j v0 wr)) (fun _ v12 _ => N - (intOf v12).toNat)
  case atStart =>
    refine ⟨0, Nat.zero_le _, rfl, ?_, H2.out⟩
    have := H1.out
    rw [← HN.out] at this
    simpa [vis] using this
  case round =>
    obtain ⟨j, hj, rfl, hI⟩ := hrel
    have hvl := vis_len (L := L.take j) fun n hn => HL.out n (List.mem_of_mem_take hn)
    have htl : (L.take j).length ≤ j := List.length_take_le _ _
    have hvN : (vi (zz (L.length : Int))).length ≤ 10 := by rw [HN.out]; exact hv10
    by_cases hjn : j < N
    · have hjL : j < L.length := by rw [HN.out]; exact hjn
      obtain ⟨ad, rfl, hadB, hcell⟩ := HH.out (by rw [nums_length]; omega)
      have e3 : wr.cell? (ad.add j) = some (.int .i64 L[j]) := by
        rw [hI.out.2.cell (by rw [block_add]; omega)]
        exact hcell j _ (nums_get hjL)
      have hsn := hid (vis_snoc L hjL)
      have h64j := HL.out L[j] (List.getElem_mem hjL)
      have hc2 := hid (number_any wr W.heap.size u0 _ _ L[j] (.inl hI.out.1) hI.out.2.size (by rw [List.length_append]; omega) h64j.1 h64j.2)
      obtain ⟨y, hy⟩ : ∃ y, y = L[j] := ⟨_, rfl⟩
      rw [← hy] at e3 hc2 hsn
      clear h64j hy hvl htl hvN hcell
      go_wp2_with fail
      refine hc2.out.mono ?_
      rintro e w2 ⟨v2, rfl, h3, h4⟩
      have H3 := hid h3
      have H4 := hid h4
      clear h3 h4
      go_wp2_with fail
      go_roundw
      case rel =>
        refine ⟨j + 1, by omega, by go_num, hid ⟨?_, hI.out.2.trans H4.out⟩⟩
        have := H3.out
        rw [hsn.out, ← List.append_assoc, byc_append (vi (zz L.length) ++ vis (L.take j)), ← List.append_assoc, List.length_append, ← Nat.add_assoc]
        exact this
      case measure => simp [intOf]; omega
    · obtain rfl : j = N := by omega
      go_wp2_with fail
      go_ret
      refine ⟨u0, rfl, ?_, hI.out.2⟩
      have h := hI.out.1
      rw [← HN.out, List.take_length] at h
      exact h
theorem wints_any (h : WrAt w base g l) {N : Nat} (hN : L.length = N) (hh : Holds w B A (nums L)) (hB : B ≤ w.heap.size) (hL : ∀ n ∈ L, I64 n) (hs : N ≤ 100) (hl : l.length ≤ 60000) :
    Calls Tryz.prog 86 #[.pointer (some ⟨g, 0, none⟩), .slice A N c] w fun e w' => e = .returned (.tuple #[]) ∧ WrAt w' base g (l ++ ibs L) ∧ Below base w w' := by
  have hbl := ibs_len hL
  have h64 := small64 (n := L.length) (by omega)
  have hten := vi_ten (zz_lt h64.1 h64.2)
  have hW := h.below ((Below.refl _ _).alloc (Nat.le_refl _) (.cells #[.slice A N c] 26))
  have hc := hid (lay_any hW _ _ (lays_ints (c := c) hN hh hB hL hs) (by omega))
  have hb := hid ((Below.refl base w).alloc h.low (.cells #[.slice A N c] 26))
  clear h hW hL hh h64
  go_enter Tryz.func86, Tryz.ntmps86
  go_wp2_with fail
  refine hc.out.mono ?_
  rintro e w' ⟨rfl, h1, h2⟩
  have H1 := hid h1
  have H2 := hid h2
  clear h1 h2
  go_wp2_with fail
  go_end0
  exact ⟨rfl, H1.out, hb.out.trans H2.out⟩
/-- What a manager tells. -/
def ansB (L : List Int) (e : Nat) : ByteArray := ⟨(UInt8.ofNat e :: ibs (if e = 0 then L else [])).toArray⟩
theorem answer_any (w : World) (e : Nat) (he : e < 256) {N : Nat} (hN : L.length = N) (hh : Holds w B A (nums L)) (hB : B ≤ w.heap.size) (hL : ∀ n ∈ L, I64 n) (hs : N ≤ 100) :
    Calls Tryz.prog 38 #[.slice A N c, .int .i64 e] w fun r w' => r = .returned (.string (ansB L e)) ∧ Below w.heap.size w w' := by
  by_cases h0 : e = 0
  · subst h0
    go_enter Tryz.func38, Tryz.ntmps38
    go_wp2_with fail
    refine (newW_any w).mono ?_
    rintro r w1 ⟨rfl, h1, h2⟩
    have hc1 := hid (wbyte_any h1 0 (by omega) (by simp))
    have HH1 := hid (hh.below (h2.mono hB))
    have HB1 := hid h2
    have HS := h2.size
    have HN := hid hN
    have HL := hid hL
    clear h1 h2 hh hN hL
    go_wp2_with fail
    refine hc1.out.mono ?_
    rintro r w2 ⟨rfl, h1, h2⟩
    have hc2 := hid (wints_any (c := c) h1 HN.out (HH1.out.below (h2.mono hB)) (by have := h2.size; omega) HL.out hs (by simp))
    have HB2 := hid h2
    clear h1 h2
    go_wp2_with fail
    refine hc2.out.mono ?_
    rintro r w3 ⟨rfl, h1, h2⟩
    have hc3 := hid (wdone_any h1 (by simp))
    have HB3 := hid h2
    clear h1 h2
    go_wp2_with fail
    refine hc3.out.mono ?_
    rintro r w4 ⟨rfl, rfl⟩
    go_wp2_with fail
    go_ret
    exact ⟨by simp [ansB], (HB1.out.trans HB2.out).trans HB3.out⟩
  · have hei : ((e : Int) == 0) = false := by simp; omega
    have hni : ((e : Int) != 0) = true := by simp; omega
    go_enter Tryz.func38, Tryz.ntmps38
    go_wp2_with fail
    refine (newW_any w).mono ?_
    rintro r w1 ⟨rfl, h1, h2⟩
    have hc1 := hid (wbyte_any h1 e he (by simp))
    have HB1 := hid h2
    clear h1 h2 hh hN hL
    go_wp2_with fail
    refine hc1.out.mono ?_
    rintro r w2 ⟨rfl, h1, h2⟩
    have hc2 := hid (wints_any (c := 0) (L := []) (B := 0) (A := none) h1 rfl (Holds.nil_ _ _ _) (by omega) (fun n hn => by cases hn) (Nat.zero_le _) (by simp))
    have HB2 := hid h2
    clear h1 h2
    go_wp2_with fail
    refine hc2.out.mono ?_
    rintro r w3 ⟨rfl, h1, h2⟩
    have hc3 := hid (wdone_any h1 (by simp))
    have HB3 := hid h2
    clear h1 h2
    go_wp2_with fail
    refine hc3.out.mono ?_
    rintro r w4 ⟨rfl, rfl⟩
    go_wp2_with fail
    go_ret
    have HE := hid h0
    exact ⟨by simp [ansB, if_neg h0], (HB1.out.trans HB2.out).trans HB3.out⟩
end
end Go.Proofs.YtopbojifllnckaaGreatDoor
namespace Go.Proofs.YtopbojifllnckaaGreatDoor
open Go.RowKit
attribute [local irreducible] wpQuiet
attribute [local go_sem high] run_mxI run_mnI
set_option maxRecDepth 100000 in
theorem groups_none (w : World) : Calls Tryz.prog 147 #[.string ⟨#[]⟩] w fun e w' => e = .returned (.tuple #[.int .u64 0, .int .i64 0]) ∧ w = w' := by
  have h1 : mnI 0 10 = 0 := rfl
  go_enter Tryz.func147, Tryz.ntmps147
  go_wp2_with fail
  go_loop [10] (fun i => i = .int .i64 0) (fun i => (intOf i).toNat)
  case atStart => rfl
  case round =>
    subst hrel
    go_wp2_with fail
    go_ret2
    exact ⟨rfl, rfl⟩
def GrRel (u : Nat) (v10 v4 : Value) : Prop :=
  ∃ (j a c : Nat) (pre : List UInt8), v10 = .int .i64 j ∧ v4 = .int .u64 a ∧ Hid (vi u = pre ++ vi c ∧ pre.length = j ∧ a < 128 ^ j ∧ a + c * 128 ^ j = u ∧ (0 < j → 0 < c))
theorem or_shl (a b j : Nat) (hb : b < 256) (ha : a < 128 ^ j) (ht : Lt64 (a + b % 128 * 128 ^ j)) :
    bits .or .u64 (a : Int) (IntKind.u64.wrap (bits .and .u64 (b : Int) 127 * 2 ^ (7 * j))) = ((a + b % 128 * 128 ^ j : Nat) : Int) := by
  unfold Lt64 at ht
  rw [and127 b (by unfold Lt64; omega)]
  have hp : (2 : Int) ^ (7 * j) = ((128 ^ j : Nat) : Int) := by rw [Int.pow_mul, Int.natCast_pow]; rfl
  rw [hp, ← Int.natCast_mul]
  have hw : IntKind.u64.wrap (((b % 128 * 128 ^ j : Nat) : Int)) = ((b % 128 * 128 ^ j : Nat) : Int) := by rw [u64_wrap]; omega
  rw [hw, u64_or_nat _ _ (by omega) (by omega)]
  congr 1
  have h7 : (128 : Nat) ^ j = 2 ^ (7 * j) := by rw [Nat.pow_mul]
  rw [h7] at ha ⊢
  rw [Nat.or_comm, Nat.mul_comm, ← Nat.two_pow_add_eq_or_of_lt ha, Nat.add_comm]
theorem byte_at {s : ByteArray} {pre rest : List UInt8} {b : UInt8} (hs : s.data.toList = pre ++ b :: rest) {j : Nat} (hj : pre.length = j) (hlt : j < s.size) : s[j] = b := by
  have h1 : s.data.toList[j]? = some b := by rw [hs, List.getElem?_append_right (by omega)]; simp [hj]
  have h2 : s.data.toList[j]? = some s[j] := by
    rw [List.getElem?_eq_getElem (by rw [Array.length_toList]; exact hlt)]
    rfl
  rw [h1] at h2
  exact (Option.some.inj h2).symm
set_option maxRecDepth 100000 in
set_option maxHeartbeats 1600000 in
theorem groups_vi (u : Nat) (hu : u < 18446744073709551616) (rest : List UInt8) (s : ByteArray) (hs : s.data.toList = vi u ++ rest) (hsz : s.size ≤ 1000000) (w : World) :
    Calls Tryz.prog 147 #[.string s] w fun e w' => e = .returned (.tuple #[.int .u64 u, .int .i64 (vi u).length]) ∧ w = w' := by
  have hten := vi_ten hu
  have hU : Lt64 u := hu
  have hmn : mnI (s.size : Int) 10 = ((min s.size 10 : Nat) : Int) := by unfold mnI; split <;> omega
  obtain ⟨m, hm⟩ : ∃ m, m = min s.size 10 := ⟨_, rfl⟩
  rw [← hm] at hmn
  have hl : (vi u).length ≤ m := by
    have : s.size = (vi u).length + rest.length := by
      have := congrArg List.length hs
      rw [List.length_append, Array.length_toList] at this
      exact this
    omega
  have hm2 : m ≤ s.size := by omega
  have hm3 : m ≤ 10 := by omega
  have HS := hid hs
  clear hm hs hu
  go_enter Tryz.func147, Tryz.ntmps147
  go_wp2_with fail
  clear hmn
  go_loop [4, 10] (fun v4 v10 => GrRel u v10 v4) (fun _ v10 => 10 - (intOf v10).toNat)
  case atStart => exact ⟨0, 0, u, [], rfl, rfl, rfl, rfl, by simp, by simp, fun h => absurd h (by omega)⟩
  case round =>
    obtain ⟨j, a, c, pre, rfl, rfl, hI⟩ := hrel
    have hpl : pre.length + (vi c).length ≤ m := by have := hI.out.1; rw [this, List.length_append] at hl; exact hl
    have hvc : 0 < (vi c).length := List.length_pos_iff.2 (vi_ne c)
    have hjm : j < m := by have := hI.out.2.1; omega
    have hjs : j < s.size := by omega
    by_cases h128 : c < 128
    · have hb := byte_at (s := s) (pre := pre) (b := UInt8.ofNat c) (rest := rest) (by rw [HS.out, hI.out.1, vi_lt h128]; simp) hI.out.2.1 hjs
      have hbn : (s[j]).toNat = c := by rw [hb]; exact low_byte h128
      have hor := or_shl a c j (by omega) hI.out.2.2.1 (by rw [Nat.mod_eq_of_lt h128, hI.out.2.2.2.1]; exact hU)
      have hend : Hid ((a + c % 128 * 128 ^ j : Nat) = u) := by show _ = _; rw [Nat.mod_eq_of_lt h128]; exact hI.out.2.2.2.1
      have hlen : Hid ((vi u).length = j + 1) := by show _ = _; rw [hI.out.1, List.length_append, hI.out.2.1, vi_lt h128]; rfl
      have d1 : decide ((128 : Int) ≤ (c : Int)) = false := by simp; omega
      have hc0 := hI.out.2.2.2.2
      have hc9 : j = 9 → c ≤ 1 := fun h9 => by
        have h1 := hI.out.2.2.2.1
        subst h9
        have e : (128 : Nat) ^ 9 = 9223372036854775808 := by rfl
        rw [e] at h1
        unfold Lt64 at hU
        omega
      rw [hend.out] at hor
      have HB := hid hb
      clear hb
      have hfin : Hid (∀ x : Int, x = (j : Int) + 1 → x = ((vi u).length : Int)) := fun x hx => by rw [hlen.out, hx]; rfl
      by_cases hj0 : j = 0
      · have d2 : decide ((0 : Int) < (j : Int)) = false := by simp; omega
        have d2' : decide (0 < j) = false := by simp; omega
        have d3 : ((j : Int) == 9) = false := by simp; omega
        have HJ := hid hj0
        clear hj0 hc0 hc9
        go_wp2_with fail
        go_ret2
        exact ⟨by rw [hlen.out]; rfl, rfl⟩
      · have d2 : decide ((0 : Int) < (j : Int)) = true := by simp; omega
        have d2' : decide (0 < j) = true := by simp; omega
        have d4 : ((c : Int) == 0) = false := by have := hc0 (by omega); simp; omega
        have d4' : (c == 0) = false := by have := hc0 (by omega); simp; omega
        by_cases hj9 : j = 9
        · have d3 : ((j : Int) == 9) = true := by simp; omega
          have d5 : decide ((1 : Int) < (c : Int)) = false := by have := hc9 hj9; simp; omega
          have d5' : decide (1 < c) = false := by have := hc9 hj9; simp; omega
          have HJ := hid hj9
          clear hj0 hc0 hc9 hj9
          go_wp2_with fail
          go_ret2
          exact ⟨by rw [hlen.out]; rfl, rfl⟩
        · have d3 : ((j : Int) == 9) = false := by simp; omega
          clear hj0 hc0 hc9 hj9
          go_wp2_with fail
          go_ret2
          exact ⟨by rw [hlen.out]; rfl, rfl⟩
    · have hb := byte_at (s := s) (pre := pre) (b := UInt8.ofNat (c % 128 + 128)) (rest := vi (c / 128) ++ rest) (by rw [HS.out, hI.out.1, vi_ge h128]; simp) hI.out.2.1 hjs
      obtain ⟨bv, hbv⟩ : ∃ bv, bv = c % 128 + 128 := ⟨_, rfl⟩
      have hbn : (s[j]).toNat = bv := by rw [hb, hbv, UInt8.toNat_ofNat']; exact Nat.mod_eq_of_lt (by omega)
      have hb2 : bv < 256 := by omega
      have hb3 : bv % 128 = c % 128 := by omega
      have hd : c / 128 * 128 ^ (j + 1) + c % 128 * 128 ^ j = c * 128 ^ j := by
        rw [Nat.pow_succ, Nat.mul_comm (128 ^ j) 128, ← Nat.mul_assoc, ← Nat.add_mul]
        congr 1
        omega
      have hor := or_shl a bv j hb2 hI.out.2.2.1 (by
        have h1 := hI.out.2.2.2.1
        rw [hb3]
        unfold Lt64 at *
        omega)
      have d1 : decide ((128 : Int) ≤ (bv : Int)) = true := by simp; omega
      have hlast : pre.length + 1 + (vi (c / 128)).length = (vi u).length := by rw [hI.out.1, List.length_append, vi_ge h128, List.length_cons]; omega
      have hlp : 0 < (vi (c / 128)).length := List.length_pos_iff.2 (vi_ne _)
      have hj8 : j + 1 < 10 := by have := hI.out.2.1; omega
      have hnext : Hid (vi u = (pre ++ [UInt8.ofNat (c % 128 + 128)]) ++ vi (c / 128) ∧ (pre ++ [UInt8.ofNat (c % 128 + 128)]).length = j + 1 ∧ a + bv % 128 * 128 ^ j < 128 ^ (j + 1) ∧ (a + bv % 128 * 128 ^ j) + c / 128 * 128 ^ (j + 1) = u ∧ (0 < j + 1 → 0 < c / 128)) := by
        refine ⟨by rw [hI.out.1, vi_ge h128]; simp, by rw [List.length_append, hI.out.2.1]; rfl, ?_, ?_, fun _ => by omega⟩
        · have h1 := hI.out.2.2.1
          have h2 : bv % 128 * 128 ^ j ≤ 127 * 128 ^ j := Nat.mul_le_mul_right _ (by omega)
          rw [Nat.pow_succ]
          omega
        · have h1 := hI.out.2.2.2.1
          rw [hb3]
          omega
      generalize a + bv % 128 * 128 ^ j = x at hor hnext
      have HB := hid hb
      have HV := hid hbv
      clear hb hbv hd hb3 hlast
      go_wp2_with fail
      go_round
      case rel => exact ⟨j + 1, x, c / 128, _, by go_num, rfl, hnext⟩
      case measure => simp [intOf]; omega
end Go.Proofs.YtopbojifllnckaaGreatDoor
namespace Go.Proofs.YtopbojifllnckaaGreatDoor
open Go.RowKit
attribute [local irreducible] wpQuiet
/-- A reader: what is left. -/
def RdAt (w : World) (g : Nat) (l : List UInt8) (bad : Bool) : Prop := Blk w g 174 #[.string ⟨l.toArray⟩, .bool bad]
theorem cut_front (l rest : List UInt8) (n : Nat) (hn : l.length = n) : (ByteArray.mk (l ++ rest).toArray).extract 0 n = ⟨l.toArray⟩ := by
  apply ByteArray.ext
  rw [ByteArray.data_extract]
  apply Array.ext'
  simp [← hn]
theorem cut_back (l rest : List UInt8) (n : Nat) (hn : l.length = n) : (ByteArray.mk (l ++ rest).toArray).extract n (n + rest.length) = ⟨rest.toArray⟩ := by
  apply ByteArray.ext
  rw [ByteArray.data_extract]
  apply Array.ext'
  simp [← hn]
section
variable {w : World} {g : Nat} {l rest : List UInt8} {bad : Bool}
theorem newR_any (w : World) (l : List UInt8) : Calls Tryz.prog 34 #[.string ⟨l.toArray⟩] w fun e w' => e = .returned (.pointer (some ⟨w.heap.size, 0, none⟩)) ∧ RdAt w' w.heap.size l false ∧ Below w.heap.size w w' := by
  go_enter Tryz.func34, Tryz.ntmps34
  go_wp2_with fail
  go_ret
  exact ⟨rfl, Blk.new w _ _, (Below.refl _ _).alloc (Nat.le_refl _) _⟩
theorem rfail_any (h : RdAt w g l bad) : Calls Tryz.prog 146 #[.pointer (some ⟨g, 0, none⟩)] w fun e w' => e = .returned (.tuple #[]) ∧ RdAt w' g [] true ∧ Only (· = g) w w' := by
  unfold RdAt at h
  have f0 := h.frozen 0
  have f1 := h.frozen 1
  have e0 : w.cell? ⟨g, 0, none⟩ = some (.string ⟨l.toArray⟩) := by rw [h.cell]; rfl
  have e1 : w.cell? ⟨g, 1, none⟩ = some (.bool bad) := by rw [h.cell]; rfl
  have H := hid h
  clear h
  go_enter Tryz.func146, Tryz.ntmps146
  go_wp2_with fail
  go_end0
  exact ⟨rfl, (H.out.set_ 0 _).set_ 1 _, ((Only.refl (· = g) w).setCell (p := ⟨g, 0, none⟩) (.inl rfl) _).setCell (p := ⟨g, 1, none⟩) (.inl rfl) _⟩
set_option maxHeartbeats 400000 in
theorem rtake_ok (h : RdAt w g (l ++ rest) false) (n : Nat) (hn : l.length = n) : Calls Tryz.prog 81 #[.pointer (some ⟨g, 0, none⟩), .int .i64 n] w fun e w' => e = .returned (.tuple #[.string ⟨l.toArray⟩, .bool true]) ∧ RdAt w' g rest false ∧ Only (· = g) w w' := by
  unfold RdAt at h
  have f0 := h.frozen 0
  have e0 : w.cell? ⟨g, 0, none⟩ = some (.string ⟨(l ++ rest).toArray⟩) := by rw [h.cell]; rfl
  have e1 : w.cell? ⟨g, 1, none⟩ = some (.bool false) := by rw [h.cell]; rfl
  have hs : (ByteArray.mk (l ++ rest).toArray).size = n + rest.length := by show (l ++ rest).toArray.size = _; simp [hn]
  have d1 : decide (((n + rest.length : Nat) : Int) < (n : Int)) = false := by simp; omega
  obtain ⟨s, hs0⟩ : ∃ s, s = (ByteArray.mk (l ++ rest).toArray) := ⟨_, rfl⟩
  have hx1 := cut_front l rest n hn
  have hx2 := cut_back l rest n hn
  rw [← hs0] at e0 hs hx1 hx2
  have H := hid h
  have HN := hid hn
  have H0 := hid hs0
  clear h hn hs0
  go_enter Tryz.func81, Tryz.ntmps81
  go_wp2_with fail
  go_ret2
  exact ⟨rfl, H.out.set_ 0 _, (Only.refl (· = g) w).setCell (p := ⟨g, 0, none⟩) (.inl rfl) _⟩
theorem and1 (u : Nat) (h : Lt64 u) : bits .and .u64 (u : Int) 1 = ((u % 2 : Nat) : Int) := by
  have := u64_and_nat u 1 h (by omega)
  rw [Nat.and_one_is_mod] at this
  exact this
theorem odd_neg (u : Nat) (h : Lt64 u) : bits .xor .i64 (wrap64 ((u : Int) / 2)) (wrap64 (-wrap64 (bits .and .u64 (u : Int) 1))) = unzz u := by
  rw [and1 u h]
  unfold Lt64 at h
  have e1 : wrap64 ((u : Int) / 2) = ((u / 2 : Nat) : Int) := by unfold wrap64; omega
  rw [e1]
  show IntKind.i64.wrap (((BitVec.ofInt 64 _ ^^^ BitVec.ofInt 64 _).toNat : Nat) : Int) = _
  have e5 : (BitVec.ofInt 64 ((u / 2 : Nat) : Int)).toNat = u / 2 := by
    rw [BitVec.toNat_ofInt]
    omega
  unfold unzz
  by_cases he : u % 2 = 0
  · rw [if_pos he, he]
    have e2 : wrap64 (-wrap64 ((0 : Nat) : Int)) = 0 := by unfold wrap64; omega
    have e4 : BitVec.ofInt 64 0 = 0#64 := rfl
    rw [e2, e4, BitVec.xor_zero, e5, IntKind.wrap_i64]
    omega
  · rw [if_neg he, show u % 2 = 1 from by omega]
    have e2 : wrap64 (-wrap64 ((1 : Nat) : Int)) = -1 := by unfold wrap64; omega
    have e4 : BitVec.ofInt 64 (-1) = BitVec.allOnes 64 := rfl
    rw [e2, e4, BitVec.xor_allOnes, BitVec.toNat_not, e5, IntKind.wrap_i64]
    omega
set_option maxHeartbeats 400000 in
theorem rint_ok (k : Int) (hk : I64 k) (h : RdAt w g (vi (zz k) ++ rest) false) (hsz : (vi (zz k) ++ rest).length ≤ 1000000) :
    Calls Tryz.prog 82 #[.pointer (some ⟨g, 0, none⟩)] w fun e w' => e = .returned (.int .i64 k) ∧ RdAt w' g rest false ∧ Only (· = g) w w' := by
  have hz := zz_lt hk.1 hk.2
  have e0 : w.cell? ⟨g, 0, none⟩ = some (.string ⟨(vi (zz k) ++ rest).toArray⟩) := by unfold RdAt at h; rw [h.cell]; rfl
  obtain ⟨s, hs0⟩ : ∃ s, s = (ByteArray.mk (vi (zz k) ++ rest).toArray) := ⟨_, rfl⟩
  have hc := hid (groups_vi (zz k) hz rest s (by rw [hs0]) (by rw [hs0]; show (vi (zz k) ++ rest).toArray.size ≤ _; rw [List.size_toArray]; exact hsz) w)
  have hc2 := hid (rtake_ok h (vi (zz k)).length rfl)
  rw [← hs0] at e0
  have hne : (((vi (zz k)).length : Int) == 0) = false := by have := List.length_pos_iff.2 (vi_ne (zz k)); rw [beq_eq_false_iff_ne]; omega
  have hx := odd_neg (zz k) hz
  rw [unzz_zz] at hx
  clear hz hs0 h hk
  go_enter Tryz.func82, Tryz.ntmps82
  go_wp2_with fail
  refine hc.out.mono ?_
  rintro e w' ⟨rfl, rfl⟩
  go_wp2_with fail
  refine hc2.out.mono ?_
  rintro e w' ⟨rfl, h1, h2⟩
  have H1 := hid h1
  have H2 := hid h2
  clear h1 h2
  go_wp2_with fail
  go_ret
  exact ⟨rfl, H1.out, H2.out⟩
theorem rint_none (h : RdAt w g [] bad) :
    Calls Tryz.prog 82 #[.pointer (some ⟨g, 0, none⟩)] w fun e w' => e = .returned (.int .i64 0) ∧ RdAt w' g [] true ∧ Only (· = g) w w' := by
  have e0 : w.cell? ⟨g, 0, none⟩ = some (.string ⟨#[]⟩) := by unfold RdAt at h; rw [h.cell]; rfl
  have hc := hid (rfail_any h)
  clear h
  go_enter Tryz.func82, Tryz.ntmps82
  go_wp2_with fail
  refine (groups_none w).mono ?_
  rintro e w' ⟨rfl, rfl⟩
  go_wp2_with fail
  refine hc.out.mono ?_
  rintro e w' ⟨rfl, h1, h2⟩
  have H1 := hid h1
  have H2 := hid h2
  clear h1 h2
  go_wp2_with fail
  go_ret
  exact ⟨rfl, H1.out, H2.out⟩
theorem rdone_ok (h : RdAt w g [] false) : Calls Tryz.prog 37 #[.pointer (some ⟨g, 0, none⟩)] w fun e w' => e = .returned (.int .i64 0) ∧ w = w' := by
  have e0 : w.cell? ⟨g, 0, none⟩ = some (.string ⟨#[]⟩) := by unfold RdAt at h; rw [h.cell]; rfl
  have e1 : w.cell? ⟨g, 1, none⟩ = some (.bool false) := by unfold RdAt at h; rw [h.cell]; rfl
  clear h
  go_enter Tryz.func37, Tryz.ntmps37
  go_wp2_with fail
  go_ret
  exact ⟨rfl, rfl⟩
theorem rbyte_ok (b : UInt8) (h : RdAt w g (b :: rest) false) :
    Calls Tryz.prog 35 #[.pointer (some ⟨g, 0, none⟩)] w fun e w' => e = .returned (.int .i64 b.toNat) ∧ RdAt w' g rest false ∧ Only (· = g) w w' := by
  have hc := hid (rtake_ok (l := [b]) h 1 rfl)
  have hsz : (ByteArray.mk [b].toArray).size = 1 := rfl
  have hb : (ByteArray.mk [b].toArray)[0]'(by omega) = b := rfl
  have hb2 : b.toNat < 256 := b.toNat_lt
  clear h
  go_enter Tryz.func35, Tryz.ntmps35
  go_wp2_with fail
  refine hc.out.mono ?_
  rintro e w' ⟨rfl, h1, h2⟩
  have H1 := hid h1
  have H2 := hid h2
  clear h1 h2
  go_wp2_with fail
  go_ret
  exact ⟨rfl, H1.out, H2.out⟩
end
end Go.Proofs.YtopbojifllnckaaGreatDoor
