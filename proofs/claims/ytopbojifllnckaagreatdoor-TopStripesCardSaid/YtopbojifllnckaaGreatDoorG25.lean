/- frags: head. frags: the slots; find, free. frags: find, free, may, Get. frags: flush, the writing step, steps. frags: steps, all four of them. -/
import Derived.Test.YtopbojifllnckaaGreatDoorG24
import Derived.Test.YtopbojifllnckaaGreatDoorG18
import Derived.Test.YtopbojifllnckaaGreatDoorG21
import Derived.Test.YtopbojifllnckaaGreatDoorG19
namespace Go.Proofs.YtopbojifllnckaaGreatDoor
open Go.RowKit
attribute [local irreducible] wpQuiet
def fourN (n : Nat) : ByteArray := fourS (BitVec.ofNat 32 n)
theorem fourN_size (n : Nat) : (fourN n).size = 4 := fourS_size _
def preS (st ix : Nat) (body : ByteArray) : ByteArray := (⟨#[72, 70, 82, 71]⟩ : ByteArray) ++ fourN st ++ fourN ix ++ fourN body.size ++ fourS (sumB body.data.toList)
theorem preS_size (st ix : Nat) (body : ByteArray) : (preS st ix body).size = 20 := by
  unfold preS
  simp only [ByteArray.size_append, fourN_size, fourS_size]
  rfl
/-- A head's bytes. -/
def headS (st ix : Nat) (body : ByteArray) : ByteArray := sealS (padS (preS st ix body) 60)
theorem headS_size (st ix : Nat) (body : ByteArray) : (headS st ix body).size = 64 := by
  unfold headS sealS
  rw [ByteArray.size_append, padS_size _ _ (by rw [preS_size]; omega), fourS_size]
theorem c295 {n : Nat} (h : n < 2147483648) (w : World) (d : Nat) (os : Array Obj) : Calls Tryz.prog 295 #[.int .u32 (n : Int)] (Go.Sort.grow (redrawn w d) os) fun e w'' => e = .returned (.string (fourN n)) ∧ ∃ p : Regrown, w'' = Go.Sort.grow (redrawn w p.d) p.os := by
  have hU : (n : Int) = U (BitVec.ofNat 32 n) := by unfold U; rw [BitVec.toNat_ofNat, Nat.mod_eq_of_lt (by omega)]
  rw [hU]
  exact Calls.regrown_of (ffour_any _ _)
theorem c295u (x : BitVec 32) (w : World) (d : Nat) (os : Array Obj) : Calls Tryz.prog 295 #[.int .u32 (U x)] (Go.Sort.grow (redrawn w d) os) fun e w'' => e = .returned (.string (fourS x)) ∧ ∃ p : Regrown, w'' = Go.Sort.grow (redrawn w p.d) p.os :=
  Calls.regrown_of (ffour_any _ _)
theorem c287 {s : ByteArray} (h : s.size ≤ 100000) (w : World) (d : Nat) (os : Array Obj) : Calls Tryz.prog 287 #[.string s] (Go.Sort.grow (redrawn w d) os) fun e w'' => e = .returned (.int .u32 (U (sumB s.data.toList))) ∧ ∃ p : Regrown, w'' = Go.Sort.grow (redrawn w p.d) p.os :=
  Calls.regrown_of ((sum_any s _ h).mono fun e w' q => ⟨q.1, by rw [← q.2]; exact Below.refl _ _⟩)
theorem c109 {s : ByteArray} (h : s.size ≤ 60) (w : World) (d : Nat) (os : Array Obj) : Calls Tryz.prog 109 #[.string s, .int .i64 60] (Go.Sort.grow (redrawn w d) os) fun e w'' => e = .returned (.tuple #[.string (padS s 60), .int .i64 0]) ∧ ∃ p : Regrown, w'' = Go.Sort.grow (redrawn w p.d) p.os :=
  Calls.regrown_of (Pad_ok s 60 h (by omega) _)
set_option maxRecDepth 100000 in
set_option maxHeartbeats 1600000 in
theorem head_ok (st ix : Nat) (body : ByteArray) (hst : st < 2147483648) (hix : ix < 2147483648) (hb : body.size ≤ 512) (w : World) :
    Calls Tryz.prog 235 #[.agg #[.int .i64 st, .int .i64 ix], .string body] w fun e w' => e = .returned (.string (headS st ix body)) ∧ Below w.heap.size w w' := by
  obtain ⟨W, hW⟩ : ∃ W, W = w.alloc (.cells #[.int .i64 st, .int .i64 ix] 122) := ⟨_, rfl⟩
  have hB := Blk.new w 122 #[.int .i64 st, .int .i64 ix]
  have hBB : Below w.heap.size w W := by rw [hW]; exact (Below.refl _ _).alloc (Nat.le_refl _) _
  rw [← hW] at hB
  have q0 := cell_regrown (hB.cell 0)
  have q1 := cell_regrown (hB.cell 1)
  have HW := hid hW
  have HB := hid hBB
  have k1 := hid hst
  have k2 := hid hix
  have k3 : Hid (body.size < 2147483648) := by show _ < _; omega
  have k4 : Hid (body.size ≤ 100000) := by show _ ≤ _; omega
  have w1 : IntKind.u32.wrap (st : Int) = (st : Int) := by rw [IntKind.wrap_u32]; omega
  have w2 : IntKind.u32.wrap (ix : Int) = (ix : Int) := by rw [IntKind.wrap_u32]; omega
  have w3 : IntKind.u32.wrap (body.size : Int) = (body.size : Int) := by rw [IntKind.wrap_u32]; omega
  clear hB hBB hW
  go_enter Tryz.func235, Tryz.ntmps235
  go_upto_region 1 with (fail)
  rw [← HW.out]
  have s1 := fourN_size st
  have s2 := fourN_size ix
  have s3 := fourN_size body.size
  have s4 := fourS_size (sumB body.data.toList)
  have k5 : Hid ((preS st ix body).size ≤ 60) := by show _ ≤ _; rw [preS_size]; omega
  have k6 : Hid ((padS (preS st ix body) 60).size ≤ 100000) := by show _ ≤ _; rw [padS_size _ _ k5.out]; omega
  clear hst hix hb
  refine wp_region_quiet_below (by kernel_rfl) (by kernel_rfl) ?_
  repeat (quiet_step ((first | (refine c295 ?_ _ _ _; first | exact k1.out | exact k2.out | exact k3.out) | (refine c295u _ _ _ _) | (refine c287 k4.out _ _ _) | (refine c109 (s := preS st ix body) k5.out _ _ _))))
  refine wpQuiet_nil ?_
  intro _ hw'
  obtain ⟨⟨dq, osq⟩, hw''⟩ := hw'
  subst hw''
  have hc := hid (seal_any (padS (preS st ix body) 60) (Go.Sort.grow (redrawn W dq) osq) k6.out)
  go_wp2_with fail
  refine hc.out.mono ?_
  rintro e w' ⟨rfl, hb2⟩
  have HB2 := hid ((HB.out.trans ((below_regrown W dq osq).mono HB.out.size)).trans (hb2.mono (Nat.le_trans HB.out.size (below_regrown W dq osq).size)))
  clear hb2
  go_wp2_with fail
  go_ret
  exact ⟨rfl, HB2.out⟩
end Go.Proofs.YtopbojifllnckaaGreatDoor
namespace Go.Proofs.YtopbojifllnckaaGreatDoor
open Go.RowKit
attribute [local irreducible] wpQuiet
/-- What a slot has. -/
structure Ent where
  on : Bool
  st : Int
  ix : Int
  sz : Int
def entC (e : Ent) : List Value := [.bool e.on, .int .i64 e.st, .int .i64 e.ix, .int .i64 e.sz]
/-- A row of slots in block r. -/
def SlotsAt (w : World) (r : Nat) (L : List Ent) : Prop := ∃ cs, Blk w r 287 cs ∧ ∀ i e, L[i]? = some e → ∀ k v, (entC e)[k]? = some v → cs[i * 4 + k]? = some v
theorem SlotsAt.keep {w w' : World} {r : Nat} {L : List Ent} (h : SlotsAt w r L) (hk : r < w.heap.size → w'.heap[r]? = w.heap[r]?) : SlotsAt w' r L := by
  obtain ⟨cs, h1, h2⟩ := h
  exact ⟨cs, (hk h1.lt).trans h1, h2⟩
theorem SlotsAt.lt {w : World} {r : Nat} {L : List Ent} (h : SlotsAt w r L) : r < w.heap.size := by
  obtain ⟨cs, h1, _⟩ := h
  exact h1.lt
theorem SlotsAt.four {w : World} {r : Nat} {L : List Ent} (h : SlotsAt w r L) {i : Nat} {e : Ent} (hi : L[i]? = some e) :
    w.cell? ⟨r, i * 4, none⟩ = some (.bool e.on) ∧ w.cell? ⟨r, i * 4 + 1, none⟩ = some (.int .i64 e.st) ∧ w.cell? ⟨r, i * 4 + 2, none⟩ = some (.int .i64 e.ix) ∧ w.cell? ⟨r, i * 4 + 3, none⟩ = some (.int .i64 e.sz) := by
  obtain ⟨cs, h1, h2⟩ := h
  have hk := h2 i e hi
  exact ⟨(h1.cell _).trans (hk 0 _ rfl), (h1.cell _).trans (hk 1 _ rfl), (h1.cell _).trans (hk 2 _ rfl), (h1.cell _).trans (hk 3 _ rfl)⟩
def idxI (p : Ent → Bool) (L : List Ent) : Int := match L.findIdx? p with
  | some i => (i : Int)
  | none => -1
theorem idxI_here (p : Ent → Bool) (L : List Ent) (k : Nat) {e : Ent} (he : L[k]? = some e) (hp : p e = true) (hno : ∀ j e', j < k → L[j]? = some e' → p e' = false) : idxI p L = k := by
  have hk := (List.getElem?_eq_some_iff.1 he).1
  have : L.findIdx? p = some k := by
    rw [List.findIdx?_eq_some_iff_getElem]
    refine ⟨hk, ?_, fun j hj => ?_⟩
    · rw [(List.getElem?_eq_some_iff.1 he).2]; exact hp
    · have := hno j L[j] hj (List.getElem?_eq_getElem (by omega))
      simp [this]
  unfold idxI
  rw [this]
theorem idxI_none (p : Ent → Bool) (L : List Ent) (hno : ∀ (j : Nat) (e' : Ent), L[j]? = some e' → p e' = false) : idxI p L = -1 := by
  have : L.findIdx? p = none := by
    rw [List.findIdx?_eq_none_iff]
    intro x hx
    obtain ⟨j, hj, rfl⟩ := List.getElem_of_mem hx
    exact hno j _ (List.getElem?_eq_getElem hj)
  unfold idxI
  rw [this]
def pFree (e : Ent) : Bool := !e.on
def pAt (st ix : Int) (e : Ent) : Bool := e.on && (decide (e.st = st) && decide (e.ix = ix))
set_option maxRecDepth 100000 in
theorem free1_any (on : Bool) (st ix sz : Int) (w : World) : Calls Tryz.prog 302 #[.agg #[.bool on, .int .i64 st, .int .i64 ix, .int .i64 sz]] w fun e w' => e = .returned (.bool (pFree ⟨on, st, ix, sz⟩)) ∧ Below w.heap.size w w' := by
  have hb := hid ((Below.refl w.heap.size w).alloc (Nat.le_refl _) (.cells #[.bool on, .int .i64 st, .int .i64 ix, .int .i64 sz] 287))
  go_enter Tryz.func302, Tryz.ntmps302
  go_wp2_with fail
  go_ret
  exact ⟨rfl, hb.out⟩
set_option maxRecDepth 100000 in
theorem find1_any {p : Nat} {a b : Int} (on : Bool) (st ix sz : Int) (w : World) (h0 : w.cell? ⟨p, 0, none⟩ = some (.int .i64 a)) (h1 : w.cell? ⟨p, 1, none⟩ = some (.int .i64 b)) :
    Calls Tryz.prog 237 #[.agg #[.bool on, .int .i64 st, .int .i64 ix, .int .i64 sz], .pointer (some ⟨p, 0, none⟩)] w fun e w' => e = .returned (.bool (pAt a b ⟨on, st, ix, sz⟩)) ∧ Below w.heap.size w w' := by
  have hb := hid ((Below.refl w.heap.size w).alloc (Nat.le_refl _) (.cells #[.bool on, .int .i64 st, .int .i64 ix, .int .i64 sz] 287))
  have q0 := cellA h0 (.cells #[.bool on, .int .i64 st, .int .i64 ix, .int .i64 sz] 287)
  have q1 := cellA h1 (.cells #[.bool on, .int .i64 st, .int .i64 ix, .int .i64 sz] 287)
  clear h0 h1
  cases on with
  | false =>
    go_enter Tryz.func237, Tryz.ntmps237
    go_wp2_with fail
    go_ret
    exact ⟨rfl, hb.out⟩
  | true =>
    by_cases c1 : st = a
    · subst c1
      by_cases c2 : ix = b
      · subst c2
        go_enter Tryz.func237, Tryz.ntmps237
        go_wp2_with fail
        go_ret
        exact ⟨by simp [pAt], hb.out⟩
      · have d2 : (ix == b) = false := by simp [c2]
        go_enter Tryz.func237, Tryz.ntmps237
        go_wp2_with fail
        go_ret
        exact ⟨by simp [pAt, c2], hb.out⟩
    · have d1 : (st == a) = false := by simp [c1]
      go_enter Tryz.func237, Tryz.ntmps237
      go_wp2_with fail
      go_ret
      exact ⟨by simp [pAt, c1], hb.out⟩
set_option maxRecDepth 100000 in
set_option maxHeartbeats 800000 in
theorem idx_free {w : World} {r c : Nat} {L : List Ent}  (h : SlotsAt w r L) (hl : L.length ≤ 1000)  :
    Calls Tryz.prog 236 #[.slice (some ⟨r, 0, none⟩) L.length c, .func (.func 302) #[] #[]] w fun e w' => e = .returned (.int .i64 (idxI pFree L)) ∧ Below w.heap.size w w' := by
  obtain ⟨n, hn⟩ : ∃ n, n = L.length := ⟨_, rfl⟩
  rw [← hn]
  have H := hid h
  have HN := hid hn
  have hn1 : n ≤ 1000 := by omega
  clear h hn hl
  go_enter Tryz.func236, Tryz.ntmps236
  go_wp2_with fail
  go_loopw [5, 8] (fun _ v8 wr => ∃ k : Nat, k ≤ n ∧ v8 = .int .i64 k ∧ Hid ((∀ j e', j < k → L[j]? = some e' → pFree e' = false) ∧ Below w.heap.size w wr)) (fun _ v8 _ => n - (intOf v8).toNat)
  case atStart => exact ⟨0, Nat.zero_le _, rfl, ⟨fun j e' hj => by omega, Below.refl _ _⟩⟩
  case round =>
    obtain ⟨k, hk, rfl, hI⟩ := hrel
    by_cases hkn : k < n
    · obtain ⟨e0, he0⟩ : ∃ e0, L[k]? = some e0 := ⟨_, List.getElem?_eq_getElem (by rw [← HN.out]; exact hkn)⟩
      obtain ⟨z0, z1, z2, z3⟩ := (H.out.keep fun hr => hI.out.2.block r hr).four he0
      obtain ⟨on, st, ix, sz⟩ := e0
      simp only at z0 z1 z2 z3
      have HE := hid he0
      have hrl := H.out.lt
      have hkB : (k : Int) < (n : Int) := by omega
      have h0k : (0 : Int) ≤ (k : Int) := by omega
      have hcc := hid (free1_any on st ix sz wr)
      clear he0
      go_wp2_with fail
      refine hcc.out.mono ?_
      rintro e w2 ⟨rfl, hb⟩
      have HB := hid (hI.out.2.trans (hb.mono hI.out.2.size))
      clear hb hcc z0 z1 z2 z3
      obtain ⟨t, ht⟩ : ∃ t, t = pFree ⟨on, st, ix, sz⟩ := ⟨_, rfl⟩
      rw [← ht]
      have HT := hid ht
      clear ht
      cases t with
      | true =>
        go_wp2_with fail
        go_ret
        exact ⟨by rw [idxI_here pFree L k HE.out HT.out.symm hI.out.1]; rfl, HB.out⟩
      | false =>
        go_wp2_with fail
        go_roundw
        case rel =>
          refine ⟨k + 1, by omega, by go_num, fun j e' hj he' => ?_, HB.out⟩
          by_cases hjk : j < k
          · exact hI.out.1 j e' hjk he'
          · obtain rfl : j = k := by omega
            rw [HE.out] at he'
            cases he'
            exact HT.out.symm
        case measure => simp [intOf]; omega
    · obtain rfl : k = n := by omega
      have HB := hid hI.out.2
      have hno : idxI pFree L = -1 := idxI_none _ _ fun j e' he' => hI.out.1 j e' (by rw [HN.out]; exact (List.getElem?_eq_some_iff.1 he').1) he'
      have HNO := hid hno
      clear hI hno
      go_wp2_with fail
      go_ret
      exact ⟨by rw [HNO.out]; rfl, HB.out⟩
set_option maxRecDepth 100000 in
set_option maxHeartbeats 800000 in
theorem idx_at {w : World} {r c : Nat} {L : List Ent} {p : Nat} {a b : Int} (h : SlotsAt w r L) (hl : L.length ≤ 1000) (h0 : w.cell? ⟨p, 0, none⟩ = some (.int .i64 a)) (h1 : w.cell? ⟨p, 1, none⟩ = some (.int .i64 b)) :
    Calls Tryz.prog 236 #[.slice (some ⟨r, 0, none⟩) L.length c, .func (.func 237) #[] #[.pointer (some ⟨p, 0, none⟩)]] w fun e w' => e = .returned (.int .i64 (idxI (pAt a b) L)) ∧ Below w.heap.size w w' := by
  obtain ⟨n, hn⟩ : ∃ n, n = L.length := ⟨_, rfl⟩
  rw [← hn]
  have H := hid h
  have HN := hid hn
  have hn1 : n ≤ 1000 := by omega
  clear h hn hl
  go_enter Tryz.func236, Tryz.ntmps236
  go_wp2_with fail
  go_loopw [5, 8] (fun _ v8 wr => ∃ k : Nat, k ≤ n ∧ v8 = .int .i64 k ∧ Hid ((∀ j e', j < k → L[j]? = some e' → (pAt a b) e' = false) ∧ Below w.heap.size w wr)) (fun _ v8 _ => n - (intOf v8).toNat)
  case atStart => exact ⟨0, Nat.zero_le _, rfl, ⟨fun j e' hj => by omega, Below.refl _ _⟩⟩
  case round =>
    obtain ⟨k, hk, rfl, hI⟩ := hrel
    by_cases hkn : k < n
    · obtain ⟨e0, he0⟩ : ∃ e0, L[k]? = some e0 := ⟨_, List.getElem?_eq_getElem (by rw [← HN.out]; exact hkn)⟩
      obtain ⟨z0, z1, z2, z3⟩ := (H.out.keep fun hr => hI.out.2.block r hr).four he0
      obtain ⟨on, st, ix, sz⟩ := e0
      simp only at z0 z1 z2 z3
      have HE := hid he0
      have hrl := H.out.lt
      have hkB : (k : Int) < (n : Int) := by omega
      have h0k : (0 : Int) ≤ (k : Int) := by omega
      have hcc := hid (find1_any on st ix sz wr (hI.out.2.cell (World.block_lt_of_cell? w _ h0) |>.trans h0) (hI.out.2.cell (World.block_lt_of_cell? w _ h1) |>.trans h1))
      clear he0
      go_wp2_with fail
      refine hcc.out.mono ?_
      rintro e w2 ⟨rfl, hb⟩
      have HB := hid (hI.out.2.trans (hb.mono hI.out.2.size))
      clear hb hcc z0 z1 z2 z3
      obtain ⟨t, ht⟩ : ∃ t, t = (pAt a b) ⟨on, st, ix, sz⟩ := ⟨_, rfl⟩
      rw [← ht]
      have HT := hid ht
      clear ht
      cases t with
      | true =>
        go_wp2_with fail
        go_ret
        exact ⟨by rw [idxI_here (pAt a b) L k HE.out HT.out.symm hI.out.1]; rfl, HB.out⟩
      | false =>
        go_wp2_with fail
        go_roundw
        case rel =>
          refine ⟨k + 1, by omega, by go_num, fun j e' hj he' => ?_, HB.out⟩
          by_cases hjk : j < k
          · exact hI.out.1 j e' hjk he'
          · obtain rfl : j = k := by omega
            rw [HE.out] at he'
            cases he'
            exact HT.out.symm
        case measure => simp [intOf]; omega
    · obtain rfl : k = n := by omega
      have HB := hid hI.out.2
      have hno : idxI (pAt a b) L = -1 := idxI_none _ _ fun j e' he' => hI.out.1 j e' (by rw [HN.out]; exact (List.getElem?_eq_some_iff.1 he').1) he'
      have HNO := hid hno
      clear hI hno
      go_wp2_with fail
      go_ret
      exact ⟨by rw [HNO.out]; rfl, HB.out⟩
end Go.Proofs.YtopbojifllnckaaGreatDoor
namespace Go.Proofs.YtopbojifllnckaaGreatDoor
open Go.RowKit
attribute [local irreducible] wpQuiet
theorem cut_body (b : ByteArray) (rest : List UInt8) : (ByteArray.mk (b.data.toList ++ rest).toArray).extract 0 b.size = b := by
  have hl : b.data.toList.length = b.size := by rw [Array.length_toList]; rfl
  rw [cut_front b.data.toList rest b.size hl]
/-- A store of fragments in blocks of S: its device, its slots. -/
structure FrgAt (S Sd : Nat → Prop) (w : World) (g d r c : Nat) (L : List Ent) (D : List ByteArray) (n : Nat) : Prop where
  blk : Blk w g 285 #[.pointer (some ⟨d, 0, none⟩), .slice (some ⟨r, 0, none⟩) L.length c, .bool false]
  slots : SlotsAt w r L
  dev : Dev Sd w d D n
  sub : ∀ k, Sd k → S k
  ng : ¬ Sd g
  nr : ¬ Sd r
  sg : S g
  sr : S r
  cap : L.length ≤ c
  len : L.length ≤ 1000
  dl : 9 * L.length ≤ D.length
  dm : D.length ≤ 100000
  d64 : ∀ s ∈ D, s.size = 64
/-- Slot j's sectors bear a body. -/
def Body (D : List ByteArray) (j : Nat) (b : ByteArray) : Prop := secs D (9 * j + 1) 8 = b.data.toList ++ List.replicate (512 - b.size) 0 ∧ b.size ≤ 512
section
variable {S Sd : Nat → Prop} {w w' : World} {g d r c n : Nat} {L : List Ent} {D : List ByteArray}
theorem FrgAt.keep (h : FrgAt S Sd w g d r c L D n) (hk : ∀ k, S k → k < w.heap.size → w'.heap[k]? = w.heap[k]?) : FrgAt S Sd w' g d r c L D n :=
  ⟨(hk g h.sg h.blk.lt).trans h.blk, h.slots.keep (hk r h.sr), h.dev.keep (fun k hs => hk k (h.sub k hs)), h.sub, h.ng, h.nr, h.sg, h.sr, h.cap, h.len, h.dl, h.dm, h.d64⟩
theorem FrgAt.below (h : FrgAt S Sd w g d r c L D n) (hb : Below w.heap.size w w') : FrgAt S Sd w' g d r c L D n := h.keep fun k _ hk => hb.block k hk
theorem FrgAt.dev_ (h : FrgAt S Sd w g d r c L D n) {D' : List ByteArray} {m : Nat} (hd : Dev Sd w' d D' m) (ho : Only Sd w w') (hl : D'.length = D.length) (h64 : ∀ s ∈ D', s.size = 64) : FrgAt S Sd w' g d r c L D' m ∧ Only S w w' :=
  ⟨⟨(ho.block g h.blk.lt h.ng).trans h.blk, h.slots.keep (fun hr => ho.block r hr h.nr), hd, h.sub, h.ng, h.nr, h.sg, h.sr, h.cap, h.len, by rw [hl]; exact h.dl, by rw [hl]; exact h.dm, h64⟩, ho.mono h.sub⟩
set_option maxRecDepth 100000 in
theorem find_ok (h : FrgAt S Sd w g d r c L D n) (a b : Int) : Calls Tryz.prog 175 #[.pointer (some ⟨g, 0, none⟩), .agg #[.int .i64 a, .int .i64 b]] w fun e w' => e = .returned (.int .i64 (idxI (pAt a b) L)) ∧ Below w.heap.size w w' := by
  have hb := (Below.refl w.heap.size w).alloc (Nat.le_refl _) (.cells #[.int .i64 a, .int .i64 b] 122)
  have hB := Blk.new w 122 #[.int .i64 a, .int .i64 b]
  have h2 := h.below hb
  have e1 : (w.alloc (.cells #[.int .i64 a, .int .i64 b] 122)).cell? ⟨g, 1, none⟩ = some (.slice (some ⟨r, 0, none⟩) L.length c) := (h2.blk.cell 1).trans rfl
  have hgl := h2.blk.lt
  have hc := hid (idx_at (c := c) h2.slots h2.len ((hB.cell 0).trans rfl) ((hB.cell 1).trans rfl))
  have HB := hid hb
  clear h h2 hb hB
  go_enter Tryz.func175, Tryz.ntmps175
  go_wp2_with fail
  refine hc.out.mono ?_
  rintro e w' ⟨rfl, hb2⟩
  have HB2 := hid (HB.out.trans (hb2.mono HB.out.size))
  clear hb2
  go_wp2_with fail
  go_ret
  exact ⟨rfl, HB2.out⟩
set_option maxRecDepth 100000 in
theorem free_ok (h : FrgAt S Sd w g d r c L D n) : Calls Tryz.prog 239 #[.pointer (some ⟨g, 0, none⟩)] w fun e w' => e = .returned (.int .i64 (idxI pFree L)) ∧ Below w.heap.size w w' := by
  have e1 : w.cell? ⟨g, 1, none⟩ = some (.slice (some ⟨r, 0, none⟩) L.length c) := (h.blk.cell 1).trans rfl
  have hgl := h.blk.lt
  have hc := hid (idx_free (c := c) h.slots h.len)
  clear h
  go_enter Tryz.func239, Tryz.ntmps239
  go_wp2_with fail
  refine hc.out.mono ?_
  rintro e w' ⟨rfl, hb2⟩
  have HB2 := hid hb2
  clear hb2
  go_wp2_with fail
  go_ret
  exact ⟨rfl, HB2.out⟩
set_option maxRecDepth 100000 in
theorem may_ok (a b : Int) (w : World) (h0 : 0 ≤ a) (h1 : a < 2147483648) (h2 : 0 ≤ b) (h3 : b < 8) : Calls Tryz.prog 234 #[.agg #[.int .i64 a, .int .i64 b]] w fun e w' => e = .returned (.bool true) ∧ Below w.heap.size w w' := by
  have hb := hid ((Below.refl w.heap.size w).alloc (Nat.le_refl _) (.cells #[.int .i64 a, .int .i64 b] 122))
  have d0 : decide (0 ≤ a) = true := by simp; omega
  have d1 : decide (a < 2147483648) = true := by simp; omega
  have d2 : decide (0 ≤ b) = true := by simp; omega
  have d3 : decide (b < 8) = true := by simp; omega
  go_enter Tryz.func234, Tryz.ntmps234
  go_wp2_with fail
  go_ret
  exact ⟨rfl, hb.out⟩
set_option maxRecDepth 100000 in
set_option maxHeartbeats 1600000 in
theorem fGet_none (h : FrgAt S Sd w g d r c L D n) (a b : Int) (hi : idxI (pAt a b) L = -1) : Calls Tryz.prog 244 #[.pointer (some ⟨g, 0, none⟩), .agg #[.int .i64 a, .int .i64 b]] w fun e w' => e = .returned (.tuple #[.string ⟨#[]⟩, .int .i64 7]) ∧ Below w.heap.size w w' := by
  have hb := (Below.refl w.heap.size w).alloc (Nat.le_refl _) (.cells #[.int .i64 a, .int .i64 b] 122)
  have h2 := h.below hb
  have hc := hid (find_ok h2 a b)
  rw [hi] at hc
  have HB := hid hb
  clear h h2 hb hi
  go_enter Tryz.func244, Tryz.ntmps244
  go_wp2_with fail
  refine hc.out.mono ?_
  rintro e w' ⟨rfl, hb2⟩
  have HB2 := hid (HB.out.trans (hb2.mono HB.out.size))
  clear hb2
  go_wp2_with fail
  go_ret2
  exact ⟨rfl, HB2.out⟩
set_option maxRecDepth 100000 in
set_option maxHeartbeats 1600000 in
theorem fGet_ok (h : FrgAt S Sd w g d r c L D n) (a b : Int) (j : Nat) (hi : idxI (pAt a b) L = j) (body : ByteArray) (hj : ∃ e, L[j]? = some e ∧ e.sz = body.size) (hB : Body D j body) :
    Calls Tryz.prog 244 #[.pointer (some ⟨g, 0, none⟩), .agg #[.int .i64 a, .int .i64 b]] w fun e w' => e = .returned (.tuple #[.string body, .int .i64 0]) ∧ Below w.heap.size w w' := by
  have hb := (Below.refl w.heap.size w).alloc (Nat.le_refl _) (.cells #[.int .i64 a, .int .i64 b] 122)
  have h2 := h.below hb
  have hc := hid (find_ok h2 a b)
  rw [hi] at hc
  have HB := hid hb
  have H := hid h2
  obtain ⟨e, he, hsz⟩ := hj
  have hjl : j < L.length := (List.getElem?_eq_some_iff.1 he).1
  have q0 : (j : Int) < (L.length : Int) := by omega
  have q1 : (L.length : Int) ≤ 1000 := by have := h.len; omega
  have q2 : (0 : Int) ≤ (j : Int) := by omega
  have d0 : decide ((j : Int) < 0) = false := by simp
  have HE := hid (And.intro he (And.intro hsz hB))
  clear h h2 hb hi he hsz hB
  go_enter Tryz.func244, Tryz.ntmps244
  go_wp2_with fail
  refine hc.out.mono ?_
  rintro e0 w1 ⟨rfl, hb2⟩
  have h1 := H.out.below hb2
  have f0 : w1.cell? ⟨g, 0, none⟩ = some (.pointer (some ⟨d, 0, none⟩)) := (h1.blk.cell 0).trans rfl
  have f2 : w1.cell? ⟨g, 2, none⟩ = some (.bool false) := (h1.blk.cell 2).trans rfl
  have hgl := h1.blk.lt
  have hrd : Hid (Calls Tryz.prog 173 #[.pointer (some ⟨d, 0, none⟩), .int .i64 ((j : Int) * 9 + 1), .int .i64 8] w1 fun e w' => e = .returned (.tuple #[.string ⟨(secs D (9 * j + 1) 8).toArray⟩, .int .i64 0]) ∧ Below w1.heap.size w1 w') := by
    have := Read_ok h1.dev (9 * j + 1) 8 (by omega) (by have := h1.dl; omega) h1.dm h1.d64
    rw [show ((9 * j + 1 : Nat) : Int) = (j : Int) * 9 + 1 by omega] at this
    exact this
  have H1 := hid h1
  have HB2 := hid (HB.out.trans (hb2.mono HB.out.size))
  clear hb2 h1 hc
  go_wp2_with fail
  refine hrd.out.mono ?_
  rintro e0 w2 ⟨rfl, hb3⟩
  have h2 := H1.out.below hb3
  have f1 : w2.cell? ⟨g, 1, none⟩ = some (.slice (some ⟨r, 0, none⟩) L.length c) := (h2.blk.cell 1).trans rfl
  obtain ⟨_, _, _, z3⟩ := h2.slots.four HE.out.1
  rw [HE.out.2.1] at z3
  have hgl2 := h2.blk.lt
  obtain ⟨s, hs⟩ : ∃ s : ByteArray, s = ⟨(secs D (9 * j + 1) 8).toArray⟩ := ⟨_, rfl⟩
  have hss : s.size = 512 := by
    rw [hs]
    show (secs D (9 * j + 1) 8).toArray.size = 512
    rw [List.size_toArray, secs_len h2.d64 _ _ (by have := h2.dl; omega)]
  have hex : s.extract 0 body.size = body := by
    rw [hs, HE.out.2.2.1]
    exact cut_body _ _
  have k1 : (body.size : Int) ≤ (s.size : Int) := by have := HE.out.2.2.2; omega
  have k2 : body.size ≤ s.size := by omega
  rw [← hs]
  have HB3 := hid (HB2.out.trans (hb3.mono HB2.out.size))
  have HEX := hid hex
  clear hs h2 hb3 f0 f2 hgl hex
  go_wp2_with fail
  go_ret2
  exact ⟨by rw [HEX.out]; first | done | rfl, HB3.out⟩
end
end Go.Proofs.YtopbojifllnckaaGreatDoor
namespace Go.Proofs.YtopbojifllnckaaGreatDoor
open Go.RowKit
attribute [local irreducible] wpQuiet
theorem wrD_64 {D : List ByteArray} {a : Nat} {s : ByteArray} (h : ∀ t ∈ D, t.size = 64) : ∀ i, i * 64 ≤ s.size → ∀ t ∈ wrD D a s i, t.size = 64
  | 0, _ => h
  | i + 1, hi => fun t ht => by
    unfold wrD at ht
    rcases List.mem_or_eq_of_mem_set ht with h1 | h1
    · exact wrD_64 h i (by omega) t h1
    · rw [h1, ByteArray.size_extract]
      omega
section
variable {S Sd : Nat → Prop} {w w' : World} {g d r c n : Nat} {L : List Ent} {D : List ByteArray}
set_option maxRecDepth 100000 in
theorem fFlush_ok (h : FrgAt S Sd w g d r c L D n) : Calls Tryz.prog 242 #[.pointer (some ⟨g, 0, none⟩)] w fun e w' => e = .returned (.int .i64 0) ∧ FrgAt S Sd w' g d r c L D 0 ∧ Only S w w' := by
  have f0 : w.cell? ⟨g, 0, none⟩ = some (.pointer (some ⟨d, 0, none⟩)) := (h.blk.cell 0).trans rfl
  have hgl := h.blk.lt
  have hc := hid (Flush_ok h.dev)
  have H := hid h
  clear h
  go_enter Tryz.func242, Tryz.ntmps242
  go_wp2_with fail
  refine hc.out.mono ?_
  rintro e0 w1 ⟨rfl, h1, h2, _⟩
  have HX := hid (H.out.dev_ h1 h2 rfl H.out.d64)
  clear h1 h2 hc
  go_wp2_with fail
  go_ret
  exact ⟨rfl, HX.out⟩
set_option maxRecDepth 100000 in
theorem step_ok (h : FrgAt S Sd w g d r c L D n) {p0 p1 p2 : Nat} (a k : Nat) (s : ByteArray) (h0 : w.cell? ⟨p0, 0, none⟩ = some (.pointer (some ⟨g, 0, none⟩))) (h1 : w.cell? ⟨p1, 0, none⟩ = some (.int .i64 a)) (h2 : w.cell? ⟨p2, 0, none⟩ = some (.string s))
    (hs : s.size = k * 64) (hk : 1 ≤ k) (hak : a + k ≤ D.length) (hn : n ≤ 1000) :
    Calls Tryz.prog 303 #[.pointer (some ⟨p0, 0, none⟩), .pointer (some ⟨p1, 0, none⟩), .pointer (some ⟨p2, 0, none⟩)] w fun e w' => e = .returned (.int .i64 0) ∧ FrgAt S Sd w' g d r c L (wrD D a s k) (n + k) ∧ Only S w w' := by
  have f0 : w.cell? ⟨g, 0, none⟩ = some (.pointer (some ⟨d, 0, none⟩)) := (h.blk.cell 0).trans rfl
  have hgl := h.blk.lt
  have hp0 := World.block_lt_of_cell? w _ h0
  have hcall : Hid (∀ W2, W2 = w.drewN 1 → Calls Tryz.prog 304 #[.pointer (some ⟨d, 0, none⟩), .int .i64 a, .string s] W2 fun e0 w' => e0 = .returned (.int .i64 0) ∧ FrgAt S Sd w' g d r c L (wrD D a s k) (n + k) ∧ Only S w w') := by
    show ∀ W2, _
    intro W2 hW2
    have hb2 : Below w.heap.size w W2 := by rw [hW2]; exact below_drewN (Below.refl _ _) 1
    have hB := h.below hb2
    refine (Write_ok hB.dev a k s hs hk hak hB.dm (by omega)).mono ?_
    rintro e w' ⟨he, q1, q2⟩
    obtain ⟨m1, m2⟩ := hB.dev_ q1 q2 (wrD_length _ _ _ _) (wrD_64 hB.d64 k (by omega))
    exact ⟨he, m1, (Only.of_below hb2 fun _ hk _ => hk).trans m2⟩
  clear h hs hk hak hn
  go_enter Tryz.func303, Tryz.ntmps303
  go_upto_region 1 with (fail)
  go_still_tail 6, (by kernel_rfl)
  change wpList _ _ _ _ _ (w.drewN 1)
  go_wp2_with fail
  refine (hcall.out _ rfl).mono ?_
  rintro e0 w1 ⟨rfl, q1⟩
  have HX := hid q1
  clear q1
  go_wp2_with fail
  go_ret
  exact ⟨rfl, HX.out⟩
end
end Go.Proofs.YtopbojifllnckaaGreatDoor
namespace Go.Proofs.YtopbojifllnckaaGreatDoor
open Go.RowKit
attribute [local irreducible] wpQuiet
/-- The sectors behind k of Put's steps. -/
def dsF (D : List ByteArray) (a1 : Nat) (s1 : ByteArray) (a2 : Nat) (s2 : ByteArray) : Nat → List ByteArray
  | 0 => D
  | 1 => wrD D a1 s1 8
  | 2 => wrD D a1 s1 8
  | _ => wrD (wrD D a1 s1 8) a2 s2 1
def nsF : Nat → Nat
  | 1 => 8
  | 3 => 1
  | _ => 0
section
variable {S Sd : Nat → Prop} {w w' : World} {g d r c n : Nat} {L : List Ent} {D : List ByteArray}
theorem Only.cellK {p : Addr} {v : Value} (hc : w.cell? p = some v) (hp : ¬ S p.block) : ∀ {w2 : World}, Only S w w2 → w2.cell? p = some v := fun ho => ho.cell hc hp
set_option maxRecDepth 100000 in
set_option maxHeartbeats 1600000 in
theorem steps_ok (h : FrgAt S Sd w g d r c L D 0) {q p0 p1 p2 p3 p4 p5 : Nat} (a1 a2 : Nat) (s1 s2 : ByteArray)
    (hq : Blk w q 57 #[.func (.func 303) #[] #[.pointer (some ⟨p0, 0, none⟩), .pointer (some ⟨p1, 0, none⟩), .pointer (some ⟨p2, 0, none⟩)], .func (.func 242) #[.pointer (some ⟨g, 0, none⟩)] #[], .func (.func 303) #[] #[.pointer (some ⟨p3, 0, none⟩), .pointer (some ⟨p4, 0, none⟩), .pointer (some ⟨p5, 0, none⟩)], .func (.func 242) #[.pointer (some ⟨g, 0, none⟩)] #[]]) (hqS : ¬ S q)
    (h0 : w.cell? ⟨p0, 0, none⟩ = some (.pointer (some ⟨g, 0, none⟩)) ∧ ¬ S p0) (h1 : w.cell? ⟨p1, 0, none⟩ = some (.int .i64 a1) ∧ ¬ S p1) (h2 : w.cell? ⟨p2, 0, none⟩ = some (.string s1) ∧ ¬ S p2)
    (h3 : w.cell? ⟨p3, 0, none⟩ = some (.pointer (some ⟨g, 0, none⟩)) ∧ ¬ S p3) (h4 : w.cell? ⟨p4, 0, none⟩ = some (.int .i64 a2) ∧ ¬ S p4) (h5 : w.cell? ⟨p5, 0, none⟩ = some (.string s2) ∧ ¬ S p5)
    (hs1 : s1.size = 8 * 64) (hs2 : s2.size = 1 * 64) (ha1 : a1 + 8 ≤ D.length) (ha2 : a2 + 1 ≤ D.length) :
    Calls Tryz.prog 240 #[.pointer (some ⟨g, 0, none⟩), .int .i64 (-1), .slice (some ⟨q, 0, none⟩) 4 4] w fun e w' => e = .returned (.int .i64 0) ∧ FrgAt S Sd w' g d r c L (wrD (wrD D a1 s1 8) a2 s2 1) 0 ∧ Only S w w' := by
  have SZ := hid (And.intro hs1 (And.intro hs2 (And.intro ha1 ha2)))
  have C := hid (And.intro (And.intro hq hqS) (And.intro (fun {w2 : World} => Only.cellK h0.1 h0.2 (w2 := w2)) (And.intro (fun {w2 : World} => Only.cellK h1.1 h1.2 (w2 := w2)) (And.intro (fun {w2 : World} => Only.cellK h2.1 h2.2 (w2 := w2)) (And.intro (fun {w2 : World} => Only.cellK h3.1 h3.2 (w2 := w2)) (And.intro (fun {w2 : World} => Only.cellK h4.1 h4.2 (w2 := w2)) (fun {w2 : World} => Only.cellK h5.1 h5.2 (w2 := w2))))))))
  have H := hid h
  clear h hq hqS h0 h1 h2 h3 h4 h5 hs1 hs2 ha1 ha2
  go_enter Tryz.func240, Tryz.ntmps240
  go_wp2_with fail
  go_loopw [7, 8, 9, 12] (fun _ _ _ v12 wr => ∃ k : Nat, k ≤ 4 ∧ v12 = .int .i64 k ∧ Hid (FrgAt S Sd wr g d r c L (dsF D a1 s1 a2 s2 k) (nsF k) ∧ Only S w wr)) (fun _ _ _ v12 _ => 4 - (intOf v12).toNat)
  case atStart => exact ⟨0, by omega, rfl, H.out, Only.refl _ _⟩
  case round =>
    obtain ⟨k, hk, rfl, hI⟩ := hrel
    by_cases hk4 : k < 4
    · have hq := (C.out.1.1.only hI.out.2 C.out.1.2).cell k
      have hgl := hI.out.1.blk.lt
      rcases (by omega : k = 0 ∨ k = 1 ∨ k = 2 ∨ k = 3) with rfl | rfl | rfl | rfl
      · have e0 : wr.cell? ⟨q, 0, none⟩ = some (.func (.func 303) #[] #[.pointer (some ⟨p0, 0, none⟩), .pointer (some ⟨p1, 0, none⟩), .pointer (some ⟨p2, 0, none⟩)]) := hq.trans rfl
        have hc := hid (step_ok hI.out.1 a1 8 s1 (C.out.2.1 hI.out.2) (C.out.2.2.1 hI.out.2) (C.out.2.2.2.1 hI.out.2) SZ.out.1 (by omega) (by show a1 + 8 ≤ D.length; exact SZ.out.2.2.1) (by simp [nsF]))
        clear hq
        go_wp2_with fail
        refine hc.out.mono ?_
        rintro e w2 ⟨rfl, m1, m2⟩
        have HX : Hid (FrgAt S Sd w2 g d r c L (dsF D a1 s1 a2 s2 1) (nsF 1) ∧ Only S w w2) := ⟨m1, hI.out.2.trans m2⟩
        clear m1 m2 hc e0
        go_wp2_with fail
        go_roundw
        case rel => exact ⟨1, by omega, rfl, HX⟩
        case measure => simp [intOf]
      · have e0 : wr.cell? ⟨q, 1, none⟩ = some (.func (.func 242) #[.pointer (some ⟨g, 0, none⟩)] #[]) := hq.trans rfl
        have hc := hid (fFlush_ok hI.out.1)
        clear hq
        go_wp2_with fail
        refine hc.out.mono ?_
        rintro e w2 ⟨rfl, m1, m2⟩
        have HX : Hid (FrgAt S Sd w2 g d r c L (dsF D a1 s1 a2 s2 2) (nsF 2) ∧ Only S w w2) := ⟨m1, hI.out.2.trans m2⟩
        clear m1 m2 hc e0
        go_wp2_with fail
        go_roundw
        case rel => exact ⟨2, by omega, rfl, HX⟩
        case measure => simp [intOf]
      · have e0 : wr.cell? ⟨q, 2, none⟩ = some (.func (.func 303) #[] #[.pointer (some ⟨p3, 0, none⟩), .pointer (some ⟨p4, 0, none⟩), .pointer (some ⟨p5, 0, none⟩)]) := hq.trans rfl
        have hc := hid (step_ok hI.out.1 a2 1 s2 (C.out.2.2.2.2.1 hI.out.2) (C.out.2.2.2.2.2.1 hI.out.2) (C.out.2.2.2.2.2.2 hI.out.2) SZ.out.2.1 (by omega) (by show a2 + 1 ≤ (wrD D a1 s1 8).length; rw [wrD_length]; exact SZ.out.2.2.2) (by simp [nsF]))
        clear hq
        go_wp2_with fail
        refine hc.out.mono ?_
        rintro e w2 ⟨rfl, m1, m2⟩
        have HX : Hid (FrgAt S Sd w2 g d r c L (dsF D a1 s1 a2 s2 3) (nsF 3) ∧ Only S w w2) := ⟨m1, hI.out.2.trans m2⟩
        clear m1 m2 hc e0
        go_wp2_with fail
        go_roundw
        case rel => exact ⟨3, by omega, rfl, HX⟩
        case measure => simp [intOf]
      · have e0 : wr.cell? ⟨q, 3, none⟩ = some (.func (.func 242) #[.pointer (some ⟨g, 0, none⟩)] #[]) := hq.trans rfl
        have hc := hid (fFlush_ok hI.out.1)
        clear hq
        go_wp2_with fail
        refine hc.out.mono ?_
        rintro e w2 ⟨rfl, m1, m2⟩
        have HX : Hid (FrgAt S Sd w2 g d r c L (dsF D a1 s1 a2 s2 4) (nsF 4) ∧ Only S w w2) := ⟨m1, hI.out.2.trans m2⟩
        clear m1 m2 hc e0
        go_wp2_with fail
        go_roundw
        case rel => exact ⟨4, by omega, rfl, HX⟩
        case measure => simp [intOf]
    · obtain rfl : k = 4 := by omega
      have HX := hid hI.out
      clear hI
      go_wp2_with fail
      go_ret
      exact ⟨rfl, HX.out⟩
end
end Go.Proofs.YtopbojifllnckaaGreatDoor
