/- codec.number: a number's bytes behind a row. The reference's Int: a number's bytes as a string. The reference's Encode: a command's bytes. codec.Writer: what is laid. codec.Writer: an int, a byte, ints, all bytes; what a manager tells. codec.Writer: ints; what a manager tells. -/
import Derived.Laws.BitsAllLaws
import Derived.BigQuiet
import Derived.Lib.QuietBelow
import Derived.StillTailTactics
import Derived.Test.YtopbojifllnckaaGreatDoorG17
namespace Go.Proofs.YtopbojifllnckaaGreatDoor
open Go.RowKit
attribute [local irreducible] wpQuiet
theorem vi_len : ∀ (m u : Nat), u < 128 ^ (m + 1) → (vi u).length ≤ m + 1 := by
  intro m
  induction m with
  | zero => intro u h; rw [vi_lt (by simpa using h)]; simp
  | succ m ih =>
    intro u h
    by_cases hu : u < 128
    · rw [vi_lt hu]; simp
    · rw [vi_ge hu, List.length_cons]
      have := ih (u / 128) (by rw [Nat.div_lt_iff_lt_mul (by omega)]; rw [Nat.pow_succ] at h; exact h)
      omega
theorem vi_ten {u : Nat} (h : u < 18446744073709551616) : (vi u).length ≤ 10 := vi_len 9 u (by
  have e : (128 : Nat) ^ 10 = 1180591620717411303424 := by rfl
  show u < 128 ^ 10
  rw [e]
  omega)
theorem u64_wrap (x : Int) : IntKind.u64.wrap x = x % 18446744073709551616 := rfl
theorem xor_zz (k : Int) (h1 : -9223372036854775808 ≤ k) (h2 : k < 9223372036854775808) :
    bits .xor .u64 (IntKind.u64.wrap (IntKind.u64.wrap k * 2)) (IntKind.u64.wrap (k / 9223372036854775808)) = ((zz k : Nat) : Int) := by
  show IntKind.u64.wrap (((BitVec.ofInt 64 _ ^^^ BitVec.ofInt 64 _).toNat : Nat) : Int) = _
  have hw : ∀ n : Nat, n < 18446744073709551616 → IntKind.u64.wrap (n : Int) = n := fun n hn => by rw [u64_wrap]; omega
  rcases Int.lt_or_le k 0 with h | h
  · have e1 : k / 9223372036854775808 = -1 := by omega
    have e2 : IntKind.u64.wrap (-1) = 18446744073709551615 := rfl
    have e3 : IntKind.u64.wrap (IntKind.u64.wrap k * 2) = 2 * k + 18446744073709551616 := by rw [u64_wrap, u64_wrap]; omega
    rw [e1, e2, e3]
    have e4 : BitVec.ofInt 64 18446744073709551615 = BitVec.allOnes 64 := rfl
    rw [e4, BitVec.xor_allOnes, BitVec.toNat_not]
    have e5 : (BitVec.ofInt 64 (2 * k + 18446744073709551616)).toNat = (2 * k + 18446744073709551616).toNat := by
      rw [BitVec.toNat_ofInt]
      congr 1
      exact Int.emod_eq_of_lt (by omega) (by omega)
    rw [e5]
    have e6 : zz k = (-2 * k - 1).toNat := by unfold zz; rw [if_neg (by omega)]
    rw [e6, hw _ (by omega)]
    omega
  · have e1 : k / 9223372036854775808 = 0 := by omega
    have e2 : IntKind.u64.wrap 0 = 0 := rfl
    have e3 : IntKind.u64.wrap (IntKind.u64.wrap k * 2) = 2 * k := by rw [u64_wrap, u64_wrap]; omega
    rw [e1, e2, e3]
    have e4 : BitVec.ofInt 64 0 = 0#64 := rfl
    rw [e4, BitVec.xor_zero]
    have e5 : (BitVec.ofInt 64 (2 * k)).toNat = (2 * k).toNat := by
      rw [BitVec.toNat_ofInt]
      congr 1
      exact Int.emod_eq_of_lt (by omega) (by omega)
    rw [e5]
    have e6 : zz k = (2 * k).toNat := by unfold zz; rw [if_pos (by omega)]
    rw [e6, hw _ (by omega)]
theorem or_high (c : Nat) : bits .or .u8 (((c % 256 : Nat) : Int)) 128 = (((UInt8.ofNat (c % 128 + 128)).toNat : Nat) : Int) := by
  have h : ∀ x : Nat, x < 256 → bits .or .u8 (x : Int) 128 = (((UInt8.ofNat (x % 128 + 128)).toNat : Nat) : Int) := by decide +kernel
  rw [h _ (by omega)]
  congr 3
  omega
theorem low_byte {c : Nat} (h : c < 128) : (UInt8.ofNat c).toNat = c := by
  rw [UInt8.toNat_ofNat']; exact Nat.mod_eq_of_lt (by omega)
def Lt64 (c : Nat) : Prop := c < 18446744073709551616
def NumRel (w : World) (base n : Nat) (xs : List Value) (k : Int) (v' v5 : Value) (wr : World) : Prop :=
  ∃ (c : Nat) (pre : List UInt8), v5 = .int .u64 c ∧ Hid (Lt64 c ∧ vi (zz k) = pre ++ vi c ∧ RowF wr base 5 1 v' (n + pre.length) (xs ++ byc pre) ∧ Below base w wr)
theorem info5 : (Tryz.prog.info? 5).map (fun i => (i.zero, i.size, i.bytes)) = some (some (.int .u8 0), 1, 1) := by kernel_rfl
set_option maxRecDepth 100000 in
set_option maxHeartbeats 800000 in
theorem number_any (w : World) (base : Nat) (v : Value) (n : Nat) (xs : List Value) (k : Int) (hown : RowF w base 5 1 v n xs) (hb : base ≤ w.heap.size) (hn : n ≤ 100000) (h1 : -9223372036854775808 ≤ k) (h2 : k < 9223372036854775808) :
    Calls Tryz.prog 151 #[v, .int .i64 k] w fun e w' => ∃ v', e = .returned v' ∧ w'.ownsRow base 5 1 v' (n + (vi (zz k)).length) (xs ++ byc (vi (zz k))) ∧ Below base w w' := by
  have hx := xor_zz k h1 h2
  have hzl := zz_lt h1 h2
  have hten := vi_ten hzl
  have HW := hid hown
  have HZ : Lt64 (zz k) := hzl
  clear hown hzl h1 h2
  go_enter Tryz.func151, Tryz.ntmps151
  go_wp2_with fail
  clear hx
  go_loopw [0, 5] (fun v0 v5 wr => NumRel w base n xs k v0 v5 wr) (fun _ v5 _ => (intOf v5).toNat)
  case atStart => exact ⟨zz k, [], rfl, hid ⟨HZ, rfl, by simpa [byc] using HW.out, Below.refl _ _⟩⟩
  case round =>
    obtain ⟨c, pre, rfl, hI⟩ := hrel
    have hpl : pre.length + (vi c).length ≤ 10 := by have := hI.out.2.1; rw [this, List.length_append] at hten; exact hten
    have hwb := Below.size hI.out.2.2.2
    by_cases h128 : c < 128
    · have h128i : ¬ (128 : Int) ≤ (c : Int) := by omega
      have hlow := hid (low_byte h128)
      go_wp2_with (at_builtin; refine wpList_app1 _ rfl (.tmp 23) (.tmp 26) 172 5 (.int .u8 0) 1 rfl Tryz.underlying172 info5 rfl (by decide) base u0 (n + pre.length) (xs ++ byc pre) rfl hI.out.2.2.1 _ rfl rfl (by omega) (by omega) ?_; intro v' w' h1 h2)
      go_ret
      have e1 : vi (zz k) = pre ++ [UInt8.ofNat c] := by rw [hI.out.2.1, vi_lt h128]
      have e2 : byc (pre ++ [UInt8.ofNat c]) = byc pre ++ [.int .u8 (c : Int)] := by
        rw [byc_append]
        simp only [byc, List.map_cons, List.map_nil, hlow.out]
      refine ⟨v', rfl, ?_, hI.out.2.2.2.trans h2⟩
      rw [e1, e2, List.length_append, ← List.append_assoc]
      exact h1
    · have h128i : (128 : Int) ≤ (c : Int) := by omega
      go_wp2_with (at_builtin; refine wpList_app1 _ rfl (.tmp 17) (.tmp 21) 172 5 (.int .u8 0) 1 rfl Tryz.underlying172 info5 rfl (by decide) base u0 (n + pre.length) (xs ++ byc pre) rfl hI.out.2.2.1 _ rfl rfl (by omega) (by omega) ?_; intro v' w' h1 h2)
      go_roundw
      case rel =>
        have e1 : vi (zz k) = (pre ++ [UInt8.ofNat (c % 128 + 128)]) ++ vi (c / 128) := by rw [hI.out.2.1, vi_ge h128]; simp
        have e2 : byc (pre ++ [UInt8.ofNat (c % 128 + 128)]) = byc pre ++ [.int .u8 (bits .or .u8 ((c : Int) % 256) 128)] := by
          rw [byc_append]
          simp only [byc, List.map_cons, List.map_nil]
          have := or_high c
          rw [show ((c : Int) % 256) = ((c % 256 : Nat) : Int) from by omega, this]
        refine ⟨c / 128, pre ++ [UInt8.ofNat (c % 128 + 128)], by go_num, hid ⟨?_, e1, .inl ?_, hI.out.2.2.2.trans h2⟩⟩
        · have := hI.out.1
          unfold Lt64 at *
          omega
        · rw [e2, List.length_append, ← List.append_assoc, ← Nat.add_assoc]
          exact h1
      case measure => simp [intOf]; omega
end Go.Proofs.YtopbojifllnckaaGreatDoor
namespace Go.Proofs.YtopbojifllnckaaGreatDoor
open Go.RowKit
attribute [local irreducible] wpQuiet
theorem own_string {w : World} {base n : Nat} {v : Value} {l : List UInt8} (h : w.ownsRow base 5 1 v n (byc l)) (hl : 0 < l.length) :
    ∃ g cap, v = .slice (some ⟨g, 0, none⟩) n cap ∧ (convert 172 9 v).run Tryz.prog w = .ok (.string ⟨l.toArray⟩) w := by
  have hn : l.length = n := by have := h.1; rw [byc_length] at this; omega
  obtain ⟨g, cap, hv, _, _⟩ := h.form (by omega)
  subst hv
  refine ⟨g, cap, rfl, ?_⟩
  have := run_convert_bytes_back (P := Tryz.prog) w 172 9 5 ⟨g, 0, none⟩ cap l Tryz.underlying172 Tryz.underlying5 Tryz.underlying9 (fun j hj => h.cells (g := g) rfl j _ (by simp [byc, hj]))
  rw [hn] at this
  exact this
theorem and127 (c : Nat) (h : Lt64 c) : bits .and .u64 (c : Int) 127 = ((c % 128 : Nat) : Int) := by
  have := u64_and_nat c 127 h (by omega)
  rw [show (127 : Nat) = 2 ^ 7 - 1 from rfl, Nat.and_two_pow_sub_one_eq_mod] at this
  exact this
end Go.Proofs.YtopbojifllnckaaGreatDoor
namespace Go.Proofs.YtopbojifllnckaaGreatDoor
open Go.RowKit
attribute [local irreducible] wpQuiet
/-- A number of 64 bits. -/
def I64 (k : Int) : Prop := -9223372036854775808 ≤ k ∧ k < 9223372036854775808
/-- A command, in plain words. -/
structure Cmd where
  cl : Int
  sq : Int
  kd : Int
  a : Int
  b : Int
  c : Int
  d : Int
  e : Int
def Cmd.list (x : Cmd) : List Int := [x.cl, x.sq, x.kd, x.a, x.b, x.c, x.d, x.e]
def Cmd.cells (x : Cmd) : Array Value := #[.int .i64 x.cl, .int .i64 x.sq, .int .i64 x.kd, .int .i64 x.a, .int .i64 x.b, .int .i64 x.c, .int .i64 x.d, .int .i64 x.e]
structure Cmd.OK (x : Cmd) : Prop where
  c0 : 0 ≤ x.cl
  c1 : x.cl < 16
  s0 : 0 ≤ x.sq
  s1 : x.sq < 2147483648
  k0 : 1 ≤ x.kd
  k1 : x.kd ≤ 9
structure Cmd.In (x : Cmd) : Prop where
  a : I64 x.a
  b : I64 x.b
  c : I64 x.c
  d : I64 x.d
  e : I64 x.e
theorem Cmd.all {x : Cmd} (h : x.OK) (k : x.In) : ∀ n ∈ x.list, I64 n := by
  intro n hn
  have h0 := h.c0; have h1 := h.c1; have h2 := h.s0; have h3 := h.s1; have h4 := h.k0; have h5 := h.k1
  simp only [Cmd.list, List.mem_cons, List.not_mem_nil, or_false] at hn
  rcases hn with rfl | rfl | rfl | rfl | rfl | rfl | rfl | rfl
  · exact ⟨by omega, by omega⟩
  · exact ⟨by omega, by omega⟩
  · exact ⟨by omega, by omega⟩
  · exact k.a
  · exact k.b
  · exact k.c
  · exact k.d
  · exact k.e
def encC (x : Cmd) : ByteArray := ⟨(vis x.list).toArray⟩
end Go.Proofs.YtopbojifllnckaaGreatDoor
namespace Go.Proofs.YtopbojifllnckaaGreatDoor
open Go.RowKit
attribute [local irreducible] wpQuiet
attribute [local go_sem high] run_mxI run_mnI
/-- A writer with nothing wrong: its bytes l. -/
def WrAt (w : World) (base g : Nat) (l : List UInt8) : Prop :=
  base ≤ g ∧ ∃ A c, Blk w g 260 #[.int .i64 65536, .slice A l.length c, .int .i64 0] ∧ w.ownsRow base 5 1 (.slice A l.length c) l.length (byc l)
theorem rowF_full {w : World} {base base' e size n c : Nat} {A : Option Addr} {xs : List Value} (h : w.ownsRow base e size (.slice A n c) n xs) : RowF w base' e size (.slice A n n) n xs := by
  cases A with
  | none =>
    rcases h.2 with ⟨h1, h2⟩ | ⟨g, cap, cur, h1, _⟩
    · subst h2
      exact .inl ⟨h.1, .inl ⟨rfl, rfl⟩⟩
    · cases h1
  | some ad =>
    refine .inr ⟨ad, rfl, h.1, fun j u hu => ?_⟩
    have hx : 0 < xs.length := by
      rcases Nat.eq_zero_or_pos xs.length with h0 | h0
      · rw [List.eq_nil_of_length_eq_zero h0] at hu; simp at hu
      · exact h0
    obtain ⟨ad', h1, _, h2⟩ := (own_holdsS h).1 hx
    cases h1
    exact h2 j u hu
section
variable {w : World} {base g : Nat} {l : List UInt8}
theorem newW_any (w : World) : Calls Tryz.prog 84 #[.int .i64 65536] w fun e w' => e = .returned (.pointer (some ⟨w.heap.size, 0, none⟩)) ∧ WrAt w' w.heap.size w.heap.size [] ∧ Below w.heap.size w w' := by
  have h1 : mxI 65536 0 = 65536 := rfl
  have h2 : mnI 65536 65536 = 65536 := rfl
  go_enter Tryz.func84, Tryz.ntmps84
  go_wp2_with fail
  go_ret
  exact ⟨rfl, ⟨Nat.le_refl _, none, 0, Blk.new w _ _, World.ownsRow_nil _ _ _ _⟩, (Below.refl _ _).alloc (Nat.le_refl _) _⟩
/-- What a closure does that is handed to lay. -/
def Lays (w : World) (f : Value) (ys : List UInt8) : Prop :=
  ∃ (F p : Nat), f = .func (.func F) #[] #[.pointer (some ⟨p, 0, none⟩)] ∧ (F = 149 ∨ F = 150 ∨ F = 214) ∧ ∀ q v n xs, RowF (w.drewN q) w.heap.size 5 1 v n xs → n ≤ 70000 → Calls Tryz.prog F #[v, .pointer (some ⟨p, 0, none⟩)] (w.drewN q) fun e w' => ∃ v', e = .returned v' ∧ w'.ownsRow w.heap.size 5 1 v' (n + ys.length) (xs ++ byc ys) ∧ Below w.heap.size (w.drewN q) w'
set_option maxRecDepth 100000 in
set_option maxHeartbeats 800000 in
theorem lay_all (h : WrAt w base g l) (f : Value) (ys : List UInt8) (hf : Lays w f ys) (hl : l.length + ys.length ≤ 65536) :
    Calls Tryz.prog 148 #[.pointer (some ⟨g, 0, none⟩), f] w fun e w' => e = .returned (.tuple #[]) ∧ WrAt w' base g (l ++ ys) ∧ Below base w w' ∧ Only (· = g) w w' := by
  obtain ⟨hbg, A, c, hb, hr⟩ := h
  have e0 : w.cell? ⟨g, 0, none⟩ = some (.int .i64 65536) := by rw [hb.cell]; rfl
  have e1 : w.cell? ⟨g, 1, none⟩ = some (.slice A l.length c) := by rw [hb.cell]; rfl
  have e2 : w.cell? ⟨g, 2, none⟩ = some (.int .i64 0) := by rw [hb.cell]; rfl
  obtain ⟨F, p, rfl, hFF, hF⟩ := hf
  have hlc : l.length ≤ c := (own_holdsS hr).2.1
  have HF := hid hF
  have HR := hid hr
  have HB := hid hb
  clear hF hr hb
  go_enter Tryz.func148, Tryz.ntmps148
  go_wp2_with fail
  go_still_tail 16, (by kernel_rfl)
  rcases hFF with rfl | rfl | rfl
  all_goals
    change wpList _ _ _ _ _ (w.drewN 1)
    go_wp2_with fail
    refine (HF.out 1 _ _ _ (rowF_full HR.out) (by omega)).mono ?_
    rintro e w' ⟨v', rfl, h1, h2⟩
    obtain ⟨A', c', rfl⟩ := own_form h1
    replace h2 := (below_drewN (Below.refl w.heap.size w) 1).trans h2
    have hg := hid ((Blk.lt HB.out))
    have e0' : w'.cell? ⟨g, 0, none⟩ = some (.int .i64 65536) := by rw [(Blk.below HB.out h2 hg.out).cell]; rfl
    have f1' : w'.frozen? ⟨g, 1, none⟩ = false := (Blk.below HB.out h2 hg.out).frozen 1
    have c1' : w'.cell? ⟨g, 1, none⟩ = some (.slice A l.length c) := by rw [(Blk.below HB.out h2 hg.out).cell]; rfl
    have hli : ¬ (65536 : Int) < ((l.length + ys.length : Nat) : Int) := by omega
    have H1 := hid h1
    have H2 := hid h2
    clear h1 h2
    go_wp2_with fail
    go_end0
    have hB' := (Blk.below HB.out H2.out hg.out).set_ 1 (.slice A' (l.length + ys.length) c')
    refine ⟨rfl, ⟨hbg, A', c', ?_, ?_⟩, ?_, ?_⟩
    · rw [List.length_append]; exact hB'
    · rw [List.length_append, byc_append]
      refine own_lower (own_keep H1.out fun k hk _ => Below.heap_setCell w' _ _ k ?_) (by have := hg.out; omega)
      have := hg.out
      show k ≠ g
      omega
    · exact (H2.out.mono (by have := hg.out; omega)).setCell (p := ⟨g, 1, none⟩) hbg _
    · exact (Only.of_below (S := (· = g)) H2.out fun k hk _ => hk).setCell (p := ⟨g, 1, none⟩) (.inl rfl) _
theorem lay_any (h : WrAt w base g l) (f : Value) (ys : List UInt8) (hf : Lays w f ys) (hl : l.length + ys.length ≤ 65536) :
    Calls Tryz.prog 148 #[.pointer (some ⟨g, 0, none⟩), f] w fun e w' => e = .returned (.tuple #[]) ∧ WrAt w' base g (l ++ ys) ∧ Below base w w' :=
  (lay_all h f ys hf hl).mono fun _ _ ⟨h1, h2, h3, _⟩ => ⟨h1, h2, h3⟩
end
end Go.Proofs.YtopbojifllnckaaGreatDoor
namespace Go.Proofs.YtopbojifllnckaaGreatDoor
open Go.RowKit
attribute [local irreducible] wpQuiet
section
variable {w : World} {base g : Nat} {l : List UInt8}
theorem WrAt.lt (h : WrAt w base g l) : g < w.heap.size := by obtain ⟨_, A, c, h, _⟩ := h; exact h.lt
theorem WrAt.low (h : WrAt w base g l) : base ≤ w.heap.size := Nat.le_of_lt (Nat.lt_of_le_of_lt h.1 h.lt)
theorem WrAt.below {w' : World} (h : WrAt w base g l) (hb : Below w.heap.size w w') : WrAt w' base g l := by
  obtain ⟨h1, A, c, h2, h3⟩ := h
  exact ⟨h1, A, c, h2.below hb h2.lt, own_keep h3 fun k _ hk => hb.block k hk⟩
theorem lays_int (k : Int) (hk : I64 k) (w : World) : Lays (w.alloc (.cells #[.int .i64 k] 3)) (.func (.func 214) #[] #[.pointer (some ⟨w.heap.size, 0, none⟩)]) (vi (zz k)) := by
  refine ⟨214, w.heap.size, rfl, .inr (.inr rfl), fun q v n xs hv hn => ?_⟩
  have e0 : (w.alloc (.cells #[.int .i64 k] 3)).cell? ⟨w.heap.size, 0, none⟩ = some (.int .i64 k) := by rw [(Blk.new w 3 _).cell]; rfl
  obtain ⟨W, hW⟩ : ∃ W, W = w.alloc (.cells #[.int .i64 k] 3) := ⟨_, rfl⟩
  rw [← hW] at hv e0 ⊢
  clear hW
  have hc := hid (number_any (W.drewN q) W.heap.size v n xs k hv (Nat.le_refl _) (by omega) hk.1 hk.2)
  have HK := hid hk
  clear hv hk
  go_enter Tryz.func214, Tryz.ntmps214
  go_wp2_with fail
  refine hc.out.mono ?_
  rintro e w' ⟨v', rfl, h1, h2⟩
  have H1 := hid h1
  have H2 := hid h2
  clear h1 h2
  go_wp2_with fail
  go_ret
  exact ⟨v', rfl, H1.out, H2.out⟩
theorem wint_all (h : WrAt w base g l) (k : Int) (hk : I64 k) (hl : l.length + 10 ≤ 65536) :
    Calls Tryz.prog 139 #[.pointer (some ⟨g, 0, none⟩), .int .i64 k] w fun e w' => e = .returned (.tuple #[]) ∧ WrAt w' base g (l ++ vi (zz k)) ∧ Below base w w' ∧ Only (· = g) w w' := by
  have hten := vi_ten (zz_lt hk.1 hk.2)
  have hW := h.below ((Below.refl _ _).alloc (Nat.le_refl _) (.cells #[.int .i64 k] 3))
  have hc := hid (lay_all hW _ _ (lays_int k hk w) (by omega))
  have ho := hid ((Only.refl (· = g) w).alloc (.cells #[.int .i64 k] 3))
  have hb := hid ((Below.refl base w).alloc h.low (.cells #[.int .i64 k] 3))
  clear hk h hW
  go_enter Tryz.func139, Tryz.ntmps139
  go_wp2_with fail
  refine hc.out.mono ?_
  rintro e w' ⟨rfl, h1, h2, h3⟩
  have H1 := hid h1
  have H2 := hid h2
  have H3 := hid h3
  clear h1 h2 h3
  go_wp2_with fail
  go_end0
  exact ⟨rfl, H1.out, hb.out.trans H2.out, ho.out.trans H3.out⟩
theorem lays_byte (k : Nat) (hk : k < 256) (w : World) : Lays (w.alloc (.cells #[.int .i64 k] 3)) (.func (.func 149) #[] #[.pointer (some ⟨w.heap.size, 0, none⟩)]) [UInt8.ofNat k] := by
  refine ⟨149, w.heap.size, rfl, .inl rfl, fun q v n xs hv hn => ?_⟩
  have e0 : (w.alloc (.cells #[.int .i64 k] 3)).cell? ⟨w.heap.size, 0, none⟩ = some (.int .i64 k) := by rw [(Blk.new w 3 _).cell]; rfl
  obtain ⟨W, hW⟩ : ∃ W, W = w.alloc (.cells #[.int .i64 k] 3) := ⟨_, rfl⟩
  rw [← hW] at hv e0 ⊢
  clear hW
  have hby : Hid (byc [UInt8.ofNat k] = [.int .u8 (k : Int)]) := by
    show _ = _
    simp only [byc, List.map_cons, List.map_nil]
    rw [UInt8.toNat_ofNat', Nat.mod_eq_of_lt (by omega)]
  have HV := hid hv
  clear hv
  go_enter Tryz.func149, Tryz.ntmps149
  go_wp2_with (at_builtin; refine wpList_app1 _ rfl (.tmp 4) (.tmp 7) 172 5 (.int .u8 0) 1 rfl Tryz.underlying172 info5 rfl (by decide) W.heap.size v n xs rfl HV.out _ rfl rfl (by omega) (Nat.le_refl _) ?_; intro v' w' h1 h2; have H1 := hid h1; have H2 := hid h2; clear h1 h2)
  go_ret
  exact ⟨v', rfl, by rw [hby.out]; exact H1.out, H2.out⟩
set_option maxHeartbeats 800000 in
theorem wbyte_any (h : WrAt w base g l) (k : Nat) (hk : k < 256) (hl : l.length + 1 ≤ 65536) :
    Calls Tryz.prog 85 #[.pointer (some ⟨g, 0, none⟩), .int .i64 k] w fun e w' => e = .returned (.tuple #[]) ∧ WrAt w' base g (l ++ [UInt8.ofNat k]) ∧ Below base w w' := by
  have hW := h.below ((Below.refl _ _).alloc (Nat.le_refl _) (.cells #[.int .i64 k] 3))
  have hc := hid (lay_any hW _ _ (lays_byte k hk w) (by simp; omega))
  have hb := hid ((Below.refl base w).alloc h.low (.cells #[.int .i64 k] 3))
  have hlt := h.lt
  have e2 : w.cell? ⟨g, 2, none⟩ = some (.int .i64 0) := by obtain ⟨_, A, c, h, _⟩ := h; rw [h.cell]; rfl
  have e2' := World.new_ne w ⟨g, 2, none⟩ e2
  clear h hW
  go_enter Tryz.func85, Tryz.ntmps85
  go_wp2_with fail
  refine hc.out.mono ?_
  rintro e w' ⟨rfl, h1, h2⟩
  have H1 := hid h1
  have H2 := hid h2
  clear h1 h2
  go_wp2_with fail
  go_end0
  exact ⟨rfl, H1.out, hb.out.trans H2.out⟩
theorem wdone_any (h : WrAt w base g l) (hl : 0 < l.length) :
    Calls Tryz.prog 87 #[.pointer (some ⟨g, 0, none⟩)] w fun e w' => e = .returned (.tuple #[.string ⟨l.toArray⟩, .int .i64 0]) ∧ w = w' := by
  obtain ⟨_, A, c, hb, hr⟩ := h
  have e1 : w.cell? ⟨g, 1, none⟩ = some (.slice A l.length c) := by rw [hb.cell]; rfl
  have e2 : w.cell? ⟨g, 2, none⟩ = some (.int .i64 0) := by rw [hb.cell]; rfl
  obtain ⟨g', cap, h1, hcv⟩ := own_string hr hl
  cases h1
  clear hb hr
  go_enter Tryz.func87, Tryz.ntmps87
  go_wp2_with fail
  go_ret2
  exact ⟨rfl, rfl⟩
end
end Go.Proofs.YtopbojifllnckaaGreatDoor
namespace Go.Proofs.YtopbojifllnckaaGreatDoor
open Go.RowKit
attribute [local irreducible] wpQuiet
/-- Numbers as cells. -/
def nums (L : List Int) : List Value := L.map (Value.int .i64 ·)
theorem nums_length (L : List Int) : (nums L).length = L.length := by simp [nums]
theorem nums_get {L : List Int} {j : Nat} (hj : j < L.length) : (nums L)[j]? = some (.int .i64 L[j]) := by simp [nums, hj]
theorem vis_snoc (L : List Int) {j : Nat} (hj : j < L.length) : vis (L.take (j + 1)) = vis (L.take j) ++ vi (zz L[j]) := by
  unfold vis
  rw [List.take_succ_eq_append_getElem hj, List.flatMap_append]
  congr 1
  simp
theorem vis_len {L : List Int} (h : ∀ n ∈ L, I64 n) : (vis L).length ≤ 10 * L.length := by
  induction L with
  | nil => simp [vis]
  | cons a L ih =>
    have h1 := vi_ten (zz_lt (h a List.mem_cons_self).1 (h a List.mem_cons_self).2)
    have h2 := ih fun n hn => h n (List.mem_cons_of_mem _ hn)
    simp only [vis, List.flatMap_cons, List.length_append, List.length_cons] at h2 ⊢
    omega
/-- The bytes of a list of ints. -/
def ibs (L : List Int) : List UInt8 := vi (zz L.length) ++ vis L
theorem ibs_len {L : List Int} (h : ∀ n ∈ L, I64 n) : (ibs L).length ≤ (vi (zz L.length)).length + 10 * L.length := by
  have := vis_len h
  unfold ibs
  rw [List.length_append]
  omega
def IntsRel (W : World) (q : Nat) (n : Nat) (xs : List Value) (L : List Int) (j : Nat) (v : Value) (wr : World) : Prop :=
  wr.ownsRow W.heap.size 5 1 v (n + ((vi (zz L.length)) ++ vis (L.take j)).length) (xs ++ byc (vi (zz L.length) ++ vis (L.take j))) ∧ Below W.heap.size (W.drewN q) wr
section
variable {w : World} {base g : Nat} {l : List UInt8} {B c : Nat} {A : Option Addr} {L : List Int}
theorem small64 {n : Nat} (h : n ≤ 1000000) : I64 (n : Int) := ⟨by omega, by omega⟩
set_option maxHeartbeats 800000 in
theorem lays_ints {N : Nat} (hN : L.length = N) (hh : Holds w B A (nums L)) (hB : B ≤ w.heap.size) (hL : ∀ n ∈ L, I64 n) (hs : N ≤ 100) :
    Lays (w.alloc (.cells #[.slice A N c] 26)) (.func (.func 150) #[] #[.pointer (some ⟨w.heap.size, 0, none⟩)]) (ibs L) := by
  refine ⟨150, w.heap.size, rfl, .inr (.inl rfl), fun q v n xs hv hn => ?_⟩
  have e0 : (w.alloc (.cells #[.slice A N c] 26)).cell? ⟨w.heap.size, 0, none⟩ = some (.slice A N c) := by rw [(Blk.new w 26 _).cell]; rfl
  have hsz : B ≤ (w.alloc (.cells #[.slice A N c] 26)).heap.size := by simp; omega
  have hh' := hh.keep fun k hk => Below.heap_alloc w (.cells #[.slice A N c] 26) k (by omega)
  have hp : w.heap.size < (w.alloc (.cells #[.slice A N c] 26)).heap.size := by simp
  obtain ⟨p, hp0⟩ : ∃ p, p = w.heap.size := ⟨_, rfl⟩
  rw [← hp0] at e0 hp ⊢
  obtain ⟨W, hW⟩ : ∃ W, W = w.alloc (.cells #[.slice A N c] 26) := ⟨_, rfl⟩
  rw [← hW] at hv e0 hsz hh' hp ⊢
  clear hW hh hB hp0
  have h64 := small64 (n := N) (by omega)
  have hc := hid (number_any (W.drewN q) W.heap.size v n xs N hv (Nat.le_refl _) (by omega) h64.1 h64.2)
  have hv10 := vi_ten (zz_lt h64.1 h64.2)
  have HH := hid hh'
  have HL := hid hL
  have HN := hid hN
  clear hv hh' hL hN h64
  go_enter Tryz.func150, Tryz.ntmps150
  go_wp2_with fail
  refine hc.out.mono ?_
  rintro e w1 ⟨v1, rfl, h1, h2⟩
  have e1 : w1.cell? ⟨p, 0, none⟩ = some (.slice A N c) := by rw [h2.cell (p := ⟨p, 0, none⟩) hp]; exact e0
  have H1 := hid h1
  have H2 := hid h2
  clear h1 h2
  go_wp2_with fail
  go_loopw [0, 12] (fun v0 v12 wr => ∃ j : Nat, j ≤ N ∧ v12 = .int .i64 j ∧ Hid (IntsRel W q n xs L j v0 wr)) (fun _ v12 _ => N - (intOf v12).toNat)
  case atStart =>
    refine ⟨0, Nat.zero_le _, rfl, ?_, H2.out⟩
    have := H1.out
    rw [← HN.out] at this
    simpa [vis] using this
  case round =>
    obtain ⟨j, hj, rfl, hI⟩ := hrel
    have hvl := vis_len (L := L.take j) fun n hn => HL.out n (List.mem_of_mem_take hn)
    have htl : (L.take j).length ≤ j := List.length_take_le _ _
    have hvN : (vi (zz (L.length : Int))).length ≤ 10 := by rw [HN.out]; exact hv10
    by_cases hjn : j < N
    · have hjL : j < L.length := by rw [HN.out]; exact hjn
      obtain ⟨ad, rfl, hadB, hcell⟩ := HH.out (by rw [nums_length]; omega)
      have e3 : wr.cell? (ad.add j) = some (.int .i64 L[j]) := by
        rw [hI.out.2.cell (by rw [block_add]; omega)]
        exact hcell j _ (nums_get hjL)
      have hsn := hid (vis_snoc L hjL)
      have h64j := HL.out L[j] (List.getElem_mem hjL)
      have hc2 := hid (number_any wr W.heap.size u0 _ _ L[j] (.inl hI.out.1) hI.out.2.size (by rw [List.length_append]; omega) h64j.1 h64j.2)
      obtain ⟨y, hy⟩ : ∃ y, y = L[j] := ⟨_, rfl⟩
      rw [← hy] at e3 hc2 hsn
      clear h64j hy hvl htl hvN hcell
      go_wp2_with fail
      refine hc2.out.mono ?_
      rintro e w2 ⟨v2, rfl, h3, h4⟩
      have H3 := hid h3
      have H4 := hid h4
      clear h3 h4
      go_wp2_with fail
      go_roundw
      case rel =>
        refine ⟨j + 1, by omega, by go_num, hid ⟨?_, hI.out.2.trans H4.out⟩⟩
        have := H3.out
        rw [hsn.out, ← List.append_assoc, byc_append (vi (zz L.length) ++ vis (L.take j)), ← List.append_assoc, List.length_append, ← Nat.add_assoc]
        exact this
      case measure => simp [intOf]; omega
    · obtain rfl : j = N := by omega
      go_wp2_with fail
      go_ret
      refine ⟨u0, rfl, ?_, hI.out.2⟩
      have h := hI.out.1
      rw [← HN.out, List.take_length] at h
      exact h
theorem wints_any (h : WrAt w base g l) {N : Nat} (hN : L.length = N) (hh : Holds w B A (nums L)) (hB : B ≤ w.heap.size) (hL : ∀ n ∈ L, I64 n) (hs : N ≤ 100) (hl : l.length ≤ 60000) :
    Calls Tryz.prog 86 #[.pointer (some ⟨g, 0, none⟩), .slice A N c] w fun e w' => e = .returned (.tuple #[]) ∧ WrAt w' base g (l ++ ibs L) ∧ Below base w w' := by
  have hbl := ibs_len hL
  have h64 := small64 (n := L.length) (by omega)
  have hten := vi_ten (zz_lt h64.1 h64.2)
  have hW := h.below ((Below.refl _ _).alloc (Nat.le_refl _) (.cells #[.slice A N c] 26))
  have hc := hid (lay_any hW _ _ (lays_ints (c := c) hN hh hB hL hs) (by omega))
  have hb := hid ((Below.refl base w).alloc h.low (.cells #[.slice A N c] 26))
  clear h hW hL hh h64
  go_enter Tryz.func86, Tryz.ntmps86
  go_wp2_with fail
  refine hc.out.mono ?_
  rintro e w' ⟨rfl, h1, h2⟩
  have H1 := hid h1
  have H2 := hid h2
  clear h1 h2
  go_wp2_with fail
  go_end0
  exact ⟨rfl, H1.out, hb.out.trans H2.out⟩
/-- What a manager tells. -/
def ansB (L : List Int) (e : Nat) : ByteArray := ⟨(UInt8.ofNat e :: ibs (if e = 0 then L else [])).toArray⟩
theorem answer_any (w : World) (e : Nat) (he : e < 256) {N : Nat} (hN : L.length = N) (hh : Holds w B A (nums L)) (hB : B ≤ w.heap.size) (hL : ∀ n ∈ L, I64 n) (hs : N ≤ 100) :
    Calls Tryz.prog 38 #[.slice A N c, .int .i64 e] w fun r w' => r = .returned (.string (ansB L e)) ∧ Below w.heap.size w w' := by
  by_cases h0 : e = 0
  · subst h0
    go_enter Tryz.func38, Tryz.ntmps38
    go_wp2_with fail
    refine (newW_any w).mono ?_
    rintro r w1 ⟨rfl, h1, h2⟩
    have hc1 := hid (wbyte_any h1 0 (by omega) (by simp))
    have HH1 := hid (hh.below (h2.mono hB))
    have HB1 := hid h2
    have HS := h2.size
    have HN := hid hN
    have HL := hid hL
    clear h1 h2 hh hN hL
    go_wp2_with fail
    refine hc1.out.mono ?_
    rintro r w2 ⟨rfl, h1, h2⟩
    have hc2 := hid (wints_any (c := c) h1 HN.out (HH1.out.below (h2.mono hB)) (by have := h2.size; omega) HL.out hs (by simp))
    have HB2 := hid h2
    clear h1 h2
    go_wp2_with fail
    refine hc2.out.mono ?_
    rintro r w3 ⟨rfl, h1, h2⟩
    have hc3 := hid (wdone_any h1 (by simp))
    have HB3 := hid h2
    clear h1 h2
    go_wp2_with fail
    refine hc3.out.mono ?_
    rintro r w4 ⟨rfl, rfl⟩
    go_wp2_with fail
    go_ret
    exact ⟨by simp [ansB], (HB1.out.trans HB2.out).trans HB3.out⟩
  · have hei : ((e : Int) == 0) = false := by simp; omega
    have hni : ((e : Int) != 0) = true := by simp; omega
    go_enter Tryz.func38, Tryz.ntmps38
    go_wp2_with fail
    refine (newW_any w).mono ?_
    rintro r w1 ⟨rfl, h1, h2⟩
    have hc1 := hid (wbyte_any h1 e he (by simp))
    have HB1 := hid h2
    clear h1 h2 hh hN hL
    go_wp2_with fail
    refine hc1.out.mono ?_
    rintro r w2 ⟨rfl, h1, h2⟩
    have hc2 := hid (wints_any (c := 0) (L := []) (B := 0) (A := none) h1 rfl (Holds.nil_ _ _ _) (by omega) (fun n hn => by cases hn) (Nat.zero_le _) (by simp))
    have HB2 := hid h2
    clear h1 h2
    go_wp2_with fail
    refine hc2.out.mono ?_
    rintro r w3 ⟨rfl, h1, h2⟩
    have hc3 := hid (wdone_any h1 (by simp))
    have HB3 := hid h2
    clear h1 h2
    go_wp2_with fail
    refine hc3.out.mono ?_
    rintro r w4 ⟨rfl, rfl⟩
    go_wp2_with fail
    go_ret
    have HE := hid h0
    exact ⟨by simp [ansB, if_neg h0], (HB1.out.trans HB2.out).trans HB3.out⟩
end
end Go.Proofs.YtopbojifllnckaaGreatDoor
