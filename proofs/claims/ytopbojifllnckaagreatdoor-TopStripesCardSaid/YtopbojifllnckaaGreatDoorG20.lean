/- manager.Decode: what was written is read; nothing is refused. Slices of numbers that are read: Index, Contains, Clone, members.list. members: what stays true of a group, whatever is asked of it. members: Swap, Done. smap: stripes in memory; at. smap: group, may, Get. smap: Get. smap: Commit, Free. -/
import Derived.Laws.CopyOwn
import Derived.Deep.RegionHeld3
import Derived.Test.YtopbojifllnckaaGreatDoorG19
namespace Go.Proofs.YtopbojifllnckaaGreatDoor
open Go.RowKit
attribute [local irreducible] wpQuiet
/-- A command of which j numbers are read. -/
def mid (x : Cmd) (j : Nat) : Array Value := ((x.list.take j ++ List.replicate (8 - j) 0).map (Value.int .i64 ·)).toArray
theorem mid_set (x : Cmd) {j : Nat} (hj : j < 8) : (mid x j).setIfInBounds j (.int .i64 (x.list[j]'(by simpa [Cmd.list] using hj))) = mid x (j + 1) := by
  match j, hj with
  | 0, _ => rfl
  | 1, _ => rfl
  | 2, _ => rfl
  | 3, _ => rfl
  | 4, _ => rfl
  | 5, _ => rfl
  | 6, _ => rfl
  | 7, _ => rfl
theorem mid_size (x : Cmd) {j : Nat} (hj : j ≤ 8) : (mid x j).size = 8 := by simp [mid, Cmd.list]; omega
def Cmd.none : Cmd := ⟨0, 0, 0, 0, 0, 0, 0, 0⟩
def DecRel (w : World) (br gr bc bi : Nat) (x : Cmd) (j : Nat) (wr : World) : Prop :=
  RdAt wr gr (vis (x.list.drop j)) false ∧ Blk wr bc 30 (mid x j) ∧ Blk wr bi 184 (ptrs bc) ∧ Blk wr br 30 Cmd.none.cells ∧ Below w.heap.size w wr
theorem agg8 {w : World} {b : Nat} {x : Cmd} (h : Blk w b 30 x.cells) : w.cell? ⟨b, 0, Option.none⟩ = some (.int .i64 x.cl) ∧ w.cell? ⟨b, 1, Option.none⟩ = some (.int .i64 x.sq) ∧ w.cell? ⟨b, 2, Option.none⟩ = some (.int .i64 x.kd) ∧ w.cell? ⟨b, 3, Option.none⟩ = some (.int .i64 x.a) ∧
    w.cell? ⟨b, 4, Option.none⟩ = some (.int .i64 x.b) ∧ w.cell? ⟨b, 5, Option.none⟩ = some (.int .i64 x.c) ∧ w.cell? ⟨b, 6, Option.none⟩ = some (.int .i64 x.d) ∧ w.cell? ⟨b, 7, Option.none⟩ = some (.int .i64 x.e) :=
  ⟨(h.cell 0).trans rfl, (h.cell 1).trans rfl, (h.cell 2).trans rfl, (h.cell 3).trans rfl, (h.cell 4).trans rfl, (h.cell 5).trans rfl, (h.cell 6).trans rfl, (h.cell 7).trans rfl⟩
/-- What stands ahead of the loop. -/
theorem dec_start {w w1 w2 : World} {l : List UInt8} (h1 : RdAt w1 (w.alloc (.cells Cmd.none.cells 30)).heap.size l false) (h2 : Below (w.alloc (.cells Cmd.none.cells 30)).heap.size (w.alloc (.cells Cmd.none.cells 30)) w1)
    (h3 : Blk w2 (w1.alloc (.cells Cmd.none.cells 30)).heap.size 184 (ptrs w1.heap.size)) (h4 : Below (w1.alloc (.cells Cmd.none.cells 30)).heap.size (w1.alloc (.cells Cmd.none.cells 30)) w2) :
    RdAt w2 (w.heap.size + 1) l false ∧ Blk w2 w1.heap.size 30 Cmd.none.cells ∧ Blk w2 (w1.heap.size + 1) 184 (ptrs w1.heap.size) ∧ Blk w2 w.heap.size 30 Cmd.none.cells ∧ Below w.heap.size w w2 ∧ w.heap.size + 1 < w1.heap.size := by
  have e1 : (w.alloc (.cells Cmd.none.cells 30)).heap.size = w.heap.size + 1 := by simp
  have e2 : (w1.alloc (.cells Cmd.none.cells 30)).heap.size = w1.heap.size + 1 := by simp
  rw [e1] at h1 h2
  rw [e2] at h3 h4
  have s1 := h2.size
  have s3 := h1.lt
  have hA := (Blk.alloc h1 (.cells Cmd.none.cells 30)).below h4 (by omega)
  have hB := (Blk.new w1 30 Cmd.none.cells).below h4 (by omega)
  have hC := (((Blk.new w 30 Cmd.none.cells).below h2 (by omega)).alloc (.cells Cmd.none.cells 30)).below h4 (by rw [e1] at s1; omega)
  have hD := (((Below.refl w.heap.size w).alloc (Nat.le_refl _) (.cells Cmd.none.cells 30)).trans (h2.mono (by omega))).alloc (by rw [e1] at s1; omega) (.cells Cmd.none.cells 30)
  exact ⟨hA, hB, h3, hC, hD.trans (h4.mono (by rw [e1] at s1; omega)), s3⟩
set_option maxRecDepth 100000 in
set_option maxHeartbeats 1600000 in
theorem Decode_ok (x : Cmd) (h : x.OK) (k : x.In) ( w : World) :
    Calls Tryz.prog 39 #[.string (encC x)] w fun e w' => e = .returned (.tuple #[.agg x.cells, .int .i64 0]) ∧ Below w.heap.size w w' := by
  have hall := hid (Cmd.all h k)
  have HX := hid (And.intro h k)
  clear h k
  unfold encC
  go_enter Tryz.func39, Tryz.ntmps39
  go_wp2_with fail
  refine (newR_any _ (vis x.list)).mono ?_
  rintro e w1 ⟨rfl, h1, h2⟩
  have H1 := hid h1
  have H2 := hid h2
  clear h1 h2
  go_wp2_with fail
  refine (ints_any w1.heap.size _).mono ?_
  rintro e w2 ⟨rfl, h3, h4⟩
  have hst := dec_start H1.out H2.out h3 h4
  have hlt := hst.2.2.2.2.2
  have HST := hid hst
  clear h3 h4 hst H1 H2
  go_wp2_with fail
  go_loopw [15] (fun v15 wr => ∃ j : Nat, j ≤ 8 ∧ v15 = .int .i64 j ∧ Hid (DecRel w w.heap.size (w.heap.size + 1) w1.heap.size (w1.heap.size + 1) x j wr)) (fun v15 _ => 8 - (intOf v15).toNat)
  case atStart => exact ⟨0, Nat.zero_le _, rfl, HST.out.1, HST.out.2.1, HST.out.2.2.1, HST.out.2.2.2.1, HST.out.2.2.2.2.1⟩
  case round =>
    obtain ⟨j, hj, rfl, hI⟩ := hrel
    have hxl : x.list.length = 8 := rfl
    by_cases hj8 : j < 8
    · have hjl : j < x.list.length := by omega
      have e0 : wr.cell? ⟨w1.heap.size + 1, j, Option.none⟩ = some (.pointer (some ⟨w1.heap.size, j, Option.none⟩)) := by rw [hI.out.2.2.1.cell]; exact ptrs_get _ hj8
      have h64 := hall.out _ (List.getElem_mem hjl)
      have hrd := hI.out.1
      rw [vis_drop x.list hjl] at hrd
      have hvl := vis_len (L := x.list.drop (j + 1)) fun n hn => hall.out n (List.mem_of_mem_drop hn)
      have hdl : (x.list.drop (j + 1)).length ≤ 8 := by rw [List.length_drop]; omega
      have hten := vi_ten (zz_lt h64.1 h64.2)
      have hc := hid (rint_ok (x.list[j]'hjl) h64 hrd (by rw [List.length_append]; omega))
      have hms := hid (mid_set x hj8)
      have hmz := mid_size x hj
      generalize x.list[j]'hjl = y at hc hms hrd hten h64
      clear h64 hvl hdl hten hrd
      go_wp2_with fail
      refine hc.out.mono ?_
      rintro e w3 ⟨rfl, h1, h2⟩
      have hb3 := Blk.only hI.out.2.1 h2 (show ¬ w1.heap.size = w.heap.size + 1 by omega)
      have e3 : ∃ u, w3.cell? ⟨w1.heap.size, j, Option.none⟩ = some u := ⟨_, by rw [hb3.cell]; exact Array.getElem?_eq_getElem (by omega)⟩
      obtain ⟨u, e3⟩ := e3
      have f3 := hb3.frozen j
      have H1 := hid h1
      have H2 := hid h2
      have H3 := hid hb3
      clear h1 h2 hb3 hmz
      go_wp2_with fail
      go_roundw
      case rel =>
        have hi := hI.out
        refine ⟨j + 1, by omega, by go_num, hid ⟨?_, ?_, ?_, ?_, ?_⟩⟩
        · exact Blk.far H1.out (p := ⟨w1.heap.size, j, Option.none⟩) (by show w.heap.size + 1 ≠ w1.heap.size; omega) _
        · rw [← hms.out]
          exact H3.out.set_ j _
        · exact (hi.2.2.1.only H2.out (by omega)).far (p := ⟨w1.heap.size, j, Option.none⟩) (by show w1.heap.size + 1 ≠ w1.heap.size; omega) _
        · exact (hi.2.2.2.1.only H2.out (by omega)).far (p := ⟨w1.heap.size, j, Option.none⟩) (by show w.heap.size ≠ w1.heap.size; omega) _
        · exact (hi.2.2.2.2.trans (H2.out.below (Below.size hi.2.2.2.2) fun k hk e => by omega)).setCell (p := ⟨w1.heap.size, j, Option.none⟩) (by show w.heap.size ≤ w1.heap.size; omega) _
      case measure => simp [intOf]; omega
    · obtain rfl : j = 8 := by omega
      obtain ⟨a0, a1, a2, a3, a4, a5, a6, a7⟩ := agg8 (x := x) hI.out.2.1
      have hc := hid (menc_ok x HX.out.1 HX.out.2 wr)
      have hszr := hI.out.2.2.2.1.lt
      go_wp2_with fail
      refine hc.out.mono ?_
      rintro e w3 ⟨rfl, h1⟩
      have hc2 := hid (rdone_ok (Blk.below hI.out.1 h1 (Blk.lt hI.out.1)))
      have hb3 := hI.out.2.1.below h1 (Blk.lt hI.out.2.1)
      obtain ⟨a0, a1, a2, a3, a4, a5, a6, a7⟩ := agg8 (x := x) hb3
      have hr3 := hI.out.2.2.2.1.below h1 (Blk.lt hI.out.2.2.2.1)
      have H1 := hid h1
      clear h1 hb3
      go_wp2_with fail
      refine hc2.out.mono ?_
      rintro e w4 ⟨rfl, rfl⟩
      obtain ⟨b0, b1, b2, b3, b4, b5, b6, b7⟩ := agg8 (x := Cmd.none) hr3
      have f0 := hr3.frozen 0; have f1 := hr3.frozen 1; have f2 := hr3.frozen 2; have f3 := hr3.frozen 3
      have f4 := hr3.frozen 4; have f5 := hr3.frozen 5; have f6 := hr3.frozen 6; have f7 := hr3.frozen 7
      have HR := hid hr3
      clear hr3
      have hbb := hid (hI.out.2.2.2.2.trans (H1.out.mono (Nat.le_of_lt hszr)))
      go_wp2_with fail
      refine bodyPost_ret (v := .tuple #[.agg x.cells, .int .i64 0]) (by simp [results, Tryz.results39, go_sem, Cmd.cells, b0, b1, b2, b3, b4, b5, b6, b7]) rfl ⟨rfl, ?_⟩
      have hq : ∀ (W : World) (i : Nat) (v : Value), Below w.heap.size w W → Below w.heap.size w (W.setCell ⟨w.heap.size, i, Option.none⟩ v) := fun W i v h => h.setCell (p := ⟨w.heap.size, i, Option.none⟩) (Nat.le_refl _) v
      exact hq _ _ _ (hq _ _ _ (hq _ _ _ (hq _ _ _ (hq _ _ _ (hq _ _ _ (hq _ _ _ (hq _ _ _ hbb.out)))))))
end Go.Proofs.YtopbojifllnckaaGreatDoor
namespace Go.Proofs.YtopbojifllnckaaGreatDoor
open Go.RowKit
attribute [local irreducible] wpQuiet
section
variable {w : World} {B n c : Nat} {A : Option Addr} {xs : List Int}
/-- A copy in new memory. -/
theorem clone_any (h : Holds w B A (nums xs)) (hn : xs.length = n) (hB : B ≤ w.heap.size) (hl : n ≤ 1000000) :
    Calls Tryz.prog 103 #[.slice A n c] w fun e w' => ∃ v, e = .returned v ∧ NewInts w w' v xs ∧ Below w.heap.size w w' := by
  have q := Lib.run_eql_slice_nil (P := Tryz.prog) w 26 3 A n c 0 0 Tryz.underlying26
  cases A with
  | none =>
    have hx : xs = [] := by
      rcases Nat.eq_zero_or_pos xs.length with h0 | h0
      · exact List.eq_nil_of_length_eq_zero h0
      · obtain ⟨ad, h1, _⟩ := h (by rw [nums_length]; exact h0)
        cases h1
    subst hx
    go_enter Tryz.func103, Tryz.ntmps103
    go_wp2_with fail
    go_ret
    exact ⟨_, rfl, World.ownsRow_nil _ _ _ _, Below.refl _ _⟩
  | some ad =>
    have ho : ((w.alloc (.cells #[] 3)).ownsRow w.heap.size 3 1 (.slice (some ⟨w.heap.size, 0, none⟩) 0 0) 0 []) := World.ownsRow_made w #[] 0 (Nat.le_refl _) (by decide) rfl
    have hh : Holds (w.alloc (.cells #[] 3)) B (some ad) (nums xs) := h.keep fun k hk => Below.heap_alloc w _ k (by omega)
    have hN : (nums xs).length = n := by rw [nums_length]; exact hn
    have h1 : ∀ u ∈ nums xs, u.oneCell' = true := fun u hu => by
      obtain ⟨y, _, rfl⟩ := List.mem_map.1 hu
      rfl
    have HO := hid ho
    have HH := hid hh
    have HN := hid hN
    have H1 := hid h1
    have HX := hid hn
    have hlen : Hid ((([] : List Value).length + (nums xs).length) * 8 ≤ 140737488355328) := by
      show _ ≤ _
      rw [hN, List.length_nil]
      omega
    clear ho hh hN h1 hn h
    go_enter Tryz.func103, Tryz.ntmps103
    go_wp2_with (at_builtin; refine wpList_app _ rfl (.tmp 5) (.tmp 6) 26 3 (.int .i64 0) 8 rfl Tryz.underlying26 info3 rfl (by decide) w.heap.size (.slice (some ⟨w.heap.size, 0, none⟩) 0 0) [] rfl HO.out B (some ad) c n (nums xs) rfl HN.out HH.out H1.out hlen.out (by simp) ?_; intro v' w' h1 h2 h3; have H3 := hid h1; have H4 := hid h2; clear h1 h2 h3)
    go_ret
    refine ⟨v', rfl, ?_, ((Below.refl _ _).alloc (Nat.le_refl _) _).trans (below_grown HO.out H4.out (by simp))⟩
    have := H3.out
    rw [List.nil_append, HN.out, ← HX.out] at this
    exact this
theorem size3 : (Tryz.prog.info? 3).map (·.size) = some 1 := by kernel_rfl
end
end Go.Proofs.YtopbojifllnckaaGreatDoor
namespace Go.Proofs.YtopbojifllnckaaGreatDoor
open Go.RowKit
attribute [local irreducible] wpQuiet
section
variable {S : Nat → Prop} {w w' : World} {g : Nat} {ep : Int}
theorem setS {w w' : World} {g : Nat} (hg : S g) (i : Nat) (v : Value) (h : Only S w w') : Only S w (w'.setCell ⟨g, i, none⟩ v) := h.setCell (p := ⟨g, i, none⟩) (.inl hg) v
end
end Go.Proofs.YtopbojifllnckaaGreatDoor
namespace Go.Proofs.YtopbojifllnckaaGreatDoor
open Go.RowKit
attribute [local irreducible] wpQuiet
theorem keep3 {W : World} {b1 g hj i : Nat} {y z v : Value} (h : W.cell? ⟨g, i, none⟩ = some v) (hne : b1 ≠ g) (hi : i ≠ 4) : ((W.drew.setCell ⟨b1, hj, none⟩ y).setCell ⟨g, 4, none⟩ z).cell? ⟨g, i, none⟩ = some v := by
  rw [World.cell?_setCell_other (W.drew.setCell ⟨b1, hj, none⟩ y) ⟨g, 4, none⟩ ⟨g, i, none⟩ z (fun e => hi (by cases e; rfl)), World.cell?_setCell_far _ _ _ _ hne]
  exact h
end Go.Proofs.YtopbojifllnckaaGreatDoor
namespace Go.Proofs.YtopbojifllnckaaGreatDoor
open Go.RowKit
attribute [local irreducible] wpQuiet
/-- A stripe; its servers stand in block g. -/
structure Str where
  st : Int
  ow : Int
  ep : Int
  ln : Int
  g : Nat
  c : Nat
def scells (i : Nat) (s : Str) : List Value := [.int .i64 i, .int .i64 s.st, .int .i64 s.ow, .int .i64 s.ep, .int .i64 s.ln, .slice (some ⟨s.g, 0, none⟩) 3 s.c]
def rowS : Nat → List Str → List Value
  | _, [] => []
  | i, s :: L => scells i s ++ rowS (i + 1) L
theorem rowS_get : ∀ (L : List Str) (i j k : Nat) (s : Str), L[j]? = some s → k < 6 → (rowS i L)[j * 6 + k]? = (scells (i + j) s)[k]?
  | [], _, _, _, _, h, _ => by simp at h
  | t :: L, i, 0, k, s, h, hk => by
    simp only [List.getElem?_cons_zero, Option.some.injEq] at h
    subst h
    have : k < (scells i t).length := hk
    simp only [rowS, Nat.zero_mul, Nat.zero_add, Nat.add_zero]
    rw [List.getElem?_append_left this]
  | t :: L, i, j + 1, k, s, h, hk => by
    simp only [List.getElem?_cons_succ] at h
    have e : (scells i t).length = 6 := rfl
    simp only [rowS]
    rw [List.getElem?_append_right (by rw [e]; omega), e, show (j + 1) * 6 + k - 6 = j * 6 + k from by omega, rowS_get L (i + 1) j k s h hk]
    congr 2
    omega
theorem rowS_append : ∀ (L : List Str) (i : Nat) (s : Str), rowS i (L ++ [s]) = rowS i L ++ scells (i + L.length) s
  | [], i, s => by simp [rowS]
  | t :: L, i, s => by
    simp only [List.cons_append, rowS, rowS_append L (i + 1) s, List.length_cons, List.append_assoc]
    congr 3
    omega
theorem rowS_set : ∀ (L : List Str) (i j : Nat) (s : Str) (v : Int), L[j]? = some s → (rowS i L).set (j * 6 + 1) (.int .i64 v) = rowS i (L.set j { s with st := v })
  | [], _, _, _, _, h => by simp at h
  | t :: L, i, 0, s, v, h => by
    simp only [List.getElem?_cons_zero, Option.some.injEq] at h
    subst h
    rfl
  | t :: L, i, j + 1, s, v, h => by
    simp only [List.getElem?_cons_succ] at h
    have e : (scells i t).length = 6 := rfl
    simp only [rowS, List.set_cons_succ]
    rw [List.set_append_right _ _ (by rw [e]; omega), e, show (j + 1) * 6 + 1 - 6 = j * 6 + 1 from by omega, rowS_set L (i + 1) j s v h]
/-- Three numbers in a row. -/
def Srv (w : World) (s : Str) : Prop := ∃ xs : List Int, w.ownsRow 0 3 1 (.slice (some ⟨s.g, 0, none⟩) 3 s.c) 3 (nums xs)
/-- The map of stripes in blocks of S. -/
def Smp (S : Nat → Prop) (w : World) (g : Nat) (L : List Str) : Prop :=
  ∃ (A : Option Addr) (c : Nat) (op : Int), Blk w g 156 #[.slice A L.length c, .int .i64 op] ∧ w.ownsRow 0 37 6 (.slice A L.length c) L.length (rowS 0 L) ∧
    S g ∧ (∀ ad, A = some ad → S ad.block) ∧ ∀ s ∈ L, S s.g ∧ Srv w s
theorem own_blk {w : World} {base e size n c : Nat} {A : Option Addr} {xs : List Value} (h : w.ownsRow base e size (.slice A n c) n xs) : (A = none ∧ n = 0 ∧ c = 0) ∨ ∃ g cur, A = some ⟨g, 0, none⟩ ∧ base ≤ g ∧ Blk w g e cur ∧ n ≤ c ∧ c ≤ maxLen ∧ cur.size = c * size ∧ cur.toList.take (n * size) = xs := by
  rcases h.2 with ⟨h1, h2⟩ | ⟨g, cap, cur, h1, h2, h3, h4, h5, h6, h7⟩
  · cases h1
    exact .inl ⟨rfl, h2, rfl⟩
  · cases h1
    exact .inr ⟨g, cur, rfl, h2, h3, h4, h5, h6, h7⟩
theorem own_at {w w' : World} {base e size n c : Nat} {A : Option Addr} {xs : List Value} (h : w.ownsRow base e size (.slice A n c) n xs) (hk : ∀ ad, A = some ad → ad.block < w.heap.size → w'.heap[ad.block]? = w.heap[ad.block]?) : w'.ownsRow base e size (.slice A n c) n xs := by
  refine ⟨h.1, ?_⟩
  rcases h.2 with h1 | ⟨g, cap, cur, h1, h2, h3, h4⟩
  · exact .inl h1
  · cases h1
    exact .inr ⟨g, _, cur, rfl, h2, (hk _ rfl (Array.getElem?_eq_some_iff.1 h3).1).trans h3, h4⟩
section
variable {S : Nat → Prop} {w w' : World} {g : Nat} {L : List Str}
theorem Srv.keep {s : Str} (h : Srv w s) (hk : s.g < w.heap.size → w'.heap[s.g]? = w.heap[s.g]?) : Srv w' s := by
  obtain ⟨xs, h⟩ := h
  exact ⟨xs, own_at h fun ad e hlt => by cases e; exact hk hlt⟩
theorem Smp.keep (h : Smp S w g L) (hk : ∀ k, S k → k < w.heap.size → w'.heap[k]? = w.heap[k]?) : Smp S w' g L := by
  obtain ⟨A, c, op, h1, h2, h3, h4, h5⟩ := h
  exact ⟨A, c, op, (hk _ h3 h1.lt).trans h1, own_at h2 fun ad e hlt => hk _ (h4 ad e) hlt, h3, h4, fun s hs => ⟨(h5 s hs).1, (h5 s hs).2.keep (hk _ (h5 s hs).1)⟩⟩
/-- Where a stripe stands. -/
structure AtS (S : Nat → Prop) (w : World) (g : Nat) (L : List Str) (r : Nat) : Prop where
  row : ∃ c op, Blk w g 156 #[.slice (some ⟨r, 0, none⟩) L.length c, .int .i64 op] ∧ w.ownsRow 0 37 6 (.slice (some ⟨r, 0, none⟩) L.length c) L.length (rowS 0 L)
  sg : S g
  sr : S r
  srv : ∀ s ∈ L, S s.g ∧ Srv w s
theorem Smp.at_ (h : Smp S w g L) {j : Nat} (hj : j < L.length) : ∃ r, AtS S w g L r := by
  obtain ⟨A, c, op, h1, h2, h3, h4, h5⟩ := h
  rcases own_blk h2 with ⟨_, h6, _⟩ | ⟨r, cur, rfl, _⟩
  · omega
  · exact ⟨r, ⟨c, op, h1, h2⟩, h3, h4 _ rfl, h5⟩
theorem AtS.smp {r : Nat} (h : AtS S w g L r) : Smp S w g L := by
  obtain ⟨⟨c, op, h1, h2⟩, h3, h4, h5⟩ := h
  exact ⟨_, c, op, h1, h2, h3, fun ad e => by cases e; exact h4, h5⟩
theorem AtS.cell {r : Nat} (h : AtS S w g L r) {j k : Nat} {s : Str} (hs : L[j]? = some s) (hk : k < 6) : w.cell? ⟨r, j * 6 + k, none⟩ = (scells j s)[k]? := by
  obtain ⟨⟨c, op, h1, h2⟩, _⟩ := h
  have hj : j < L.length := (List.getElem?_eq_some_iff.1 hs).1
  have := rowS_get L 0 j k s hs hk
  rw [Nat.zero_add] at this
  rw [h2.cellAt (j * 6 + k) (by omega)]
  exact this
theorem sAt_ok {r : Nat} (h : AtS S w g L r) (j : Nat) (hj : j < L.length) : Calls Tryz.prog 102 #[.pointer (some ⟨g, 0, none⟩), .int .i64 j] w fun e w' => e = .returned (.pointer (some ⟨r, j * 6, none⟩)) ∧ w = w' := by
  obtain ⟨⟨c, op, h1, h2⟩, _⟩ := h
  have e0 : w.cell? ⟨g, 0, none⟩ = some (.slice (some ⟨r, 0, none⟩) L.length c) := (h1.cell 0).trans rfl
  have d1 : decide (L.length ≤ j) = false := by simp; omega
  have hlc := (own_holdsS h2).2.1
  clear h1 h2
  go_enter Tryz.func102, Tryz.ntmps102
  go_wp2_with fail
  go_ret
  exact ⟨rfl, rfl⟩
end
end Go.Proofs.YtopbojifllnckaaGreatDoor
namespace Go.Proofs.YtopbojifllnckaaGreatDoor
open Go.RowKit
attribute [local irreducible] wpQuiet
theorem Holds.take {w : World} {B n : Nat} {A : Option Addr} {xs : List Int} (h : Holds w B A (nums xs)) : Holds w B A (nums (xs.take n)) := fun hn => by
  have hx : 0 < xs.length := by
    rcases Nat.eq_zero_or_pos xs.length with h0 | h0
    · rw [List.eq_nil_of_length_eq_zero h0] at hn; simp [nums] at hn
    · exact h0
  obtain ⟨ad, h1, h2, h3⟩ := h (by rw [nums_length]; exact hx)
  refine ⟨ad, h1, h2, fun j u hu => h3 j u ?_⟩
  unfold nums at hu ⊢
  rw [List.map_take, List.getElem?_take] at hu
  split at hu
  · exact hu
  · cases hu
/-- A bool is given back. -/
def RBool (e : Ending) : Prop := ∃ b : Bool, e = .returned (.bool b)
end Go.Proofs.YtopbojifllnckaaGreatDoor
namespace Go.Proofs.YtopbojifllnckaaGreatDoor
open Go.RowKit
attribute [local irreducible] wpQuiet
/-- Three numbers in new memory. -/
def Own3 (w w' : World) (v : Value) : Prop := ∃ xs : List Int, w'.ownsRow w.heap.size 3 1 v 3 (nums xs)
theorem own_far {w : World} {base e size n : Nat} {v : Value} {xs : List Value} (h : w.ownsRow base e size v n xs) (b i : Nat) (hb : b < base) (u : Value) : (w.setCell ⟨b, i, none⟩ u).ownsRow base e size v n xs :=
  own_keep h fun k hk _ => Below.heap_setCell w _ _ k (by show k ≠ b; omega)
section
variable {S : Nat → Prop} {w w' : World} {g r : Nat} {L : List Str}
theorem AtS.below (h : AtS S w g L r) (hb : Below w.heap.size w w') : AtS S w' g L r := by
  obtain ⟨⟨c, op, h1, h2⟩, h3, h4, h5⟩ := h
  exact ⟨⟨c, op, h1.below hb h1.lt, own_keep h2 fun k _ hk => hb.block k hk⟩, h3, h4, fun s hs => ⟨(h5 s hs).1, (h5 s hs).2.keep fun hk => hb.block _ hk⟩⟩
theorem AtS.lt (h : AtS S w g L r) : r < w.heap.size := by
  obtain ⟨⟨c, op, h1, h2⟩, _⟩ := h
  rcases own_blk h2 with ⟨h3, _⟩ | ⟨r', cur, h3, _, h4, _⟩
  · cases h3
  · cases h3; exact h4.lt
theorem AtS.six (h : AtS S w g L r) {j : Nat} {s : Str} (hs : L[j]? = some s) : w.cell? ⟨r, j * 6, none⟩ = some (.int .i64 j) ∧ w.cell? ⟨r, j * 6 + 1, none⟩ = some (.int .i64 s.st) ∧ w.cell? ⟨r, j * 6 + 2, none⟩ = some (.int .i64 s.ow) ∧ w.cell? ⟨r, j * 6 + 3, none⟩ = some (.int .i64 s.ep) ∧
    w.cell? ⟨r, j * 6 + 4, none⟩ = some (.int .i64 s.ln) ∧ w.cell? ⟨r, j * 6 + 5, none⟩ = some (.slice (some ⟨s.g, 0, none⟩) 3 s.c) :=
  ⟨(h.cell (k := 0) hs (by omega)).trans rfl, (h.cell (k := 1) hs (by omega)).trans rfl, (h.cell (k := 2) hs (by omega)).trans rfl, (h.cell (k := 3) hs (by omega)).trans rfl, (h.cell (k := 4) hs (by omega)).trans rfl, (h.cell (k := 5) hs (by omega)).trans rfl⟩
theorem gzero (w : World) : Blk (w.alloc (.cells #[.int .i64 0, .int .i64 0, .int .i64 0, .int .i64 0, .int .i64 0, .slice none 0 0] 37)) w.heap.size 37 #[.int .i64 0, .int .i64 0, .int .i64 0, .int .i64 0, .int .i64 0, .slice none 0 0] := Blk.new w _ _
theorem agg6 {b : Nat} {x0 x1 x2 x3 x4 x5 : Value} (h : Blk w b 37 #[x0, x1, x2, x3, x4, x5]) : w.cell? ⟨b, 0, none⟩ = some x0 ∧ w.cell? ⟨b, 1, none⟩ = some x1 ∧ w.cell? ⟨b, 2, none⟩ = some x2 ∧ w.cell? ⟨b, 3, none⟩ = some x3 ∧ w.cell? ⟨b, 4, none⟩ = some x4 ∧ w.cell? ⟨b, 5, none⟩ = some x5 :=
  ⟨(h.cell 0).trans rfl, (h.cell 1).trans rfl, (h.cell 2).trans rfl, (h.cell 3).trans rfl, (h.cell 4).trans rfl, (h.cell 5).trans rfl⟩
theorem below_six {B b : Nat} (hb : B ≤ b) {x0 x1 x2 x3 x4 x5 : Value} (h : Below B w w') :
    Below B w ((((((w'.setCell ⟨b, 0, none⟩ x0).setCell ⟨b, 1, none⟩ x1).setCell ⟨b, 2, none⟩ x2).setCell ⟨b, 3, none⟩ x3).setCell ⟨b, 4, none⟩ x4).setCell ⟨b, 5, none⟩ x5) := by
  have hq : ∀ (W : World) (i : Nat) (v : Value), Below B w W → Below B w (W.setCell ⟨b, i, none⟩ v) := fun W i v h => h.setCell (p := ⟨b, i, none⟩) hb v
  exact hq _ _ _ (hq _ _ _ (hq _ _ _ (hq _ _ _ (hq _ _ _ (hq _ _ _ h)))))
set_option maxRecDepth 100000 in
set_option maxHeartbeats 800000 in
theorem sGet_ok (h : AtS S w g L r) (j : Nat) (s : Str) (hs : L[j]? = some s) : Calls Tryz.prog 44 #[.pointer (some ⟨g, 0, none⟩), .int .i64 j] w fun e w' => ∃ v, e = .returned (.tuple #[.agg #[.int .i64 j, .int .i64 s.st, .int .i64 s.ow, .int .i64 s.ep, .int .i64 s.ln, v], .bool true]) ∧ Own3 w w' v ∧ Below w.heap.size w w' := by
  have hj : j < L.length := (List.getElem?_eq_some_iff.1 hs).1
  have hrl := h.lt
  have hb0 := (Below.refl w.heap.size w).alloc (Nat.le_refl _) (.cells #[.int .i64 0, .int .i64 0, .int .i64 0, .int .i64 0, .int .i64 0, .slice none 0 0] 37)
  have h0 := h.below hb0
  have hz := gzero w
  have hsz : (w.alloc (.cells #[.int .i64 0, .int .i64 0, .int .i64 0, .int .i64 0, .int .i64 0, .slice none 0 0] 37)).heap.size = w.heap.size + 1 := by simp
  obtain ⟨W, hW⟩ : ∃ W, W = w.alloc (.cells #[.int .i64 0, .int .i64 0, .int .i64 0, .int .i64 0, .int .i64 0, .slice none 0 0] 37) := ⟨_, rfl⟩
  rw [← hW] at hb0 h0 hz hsz
  have hc := hid (sAt_ok h0 j hj)
  obtain ⟨a0, a1, a2, a3, a4, a5⟩ := h0.six hs
  obtain ⟨xs, hxs⟩ := (h0.srv s (List.mem_of_getElem? hs)).2
  rw [hW] at hc
  have HW := hid hW
  have HZ := hid hz
  have HS := hid hsz
  have HB := hid hb0
  have HX := hid hxs
  clear h h0 hz hsz hb0 hxs hW
  go_enter Tryz.func44, Tryz.ntmps44
  go_wp2_with fail
  refine hc.out.mono ?_
  rintro e w1 ⟨rfl, he⟩
  rw [← HW.out] at he
  subst he
  go_wp2_with fail
  have hX := (Blk.new W 37 #[.int .i64 (j : Int), .int .i64 s.st, .int .i64 s.ow, .int .i64 s.ep, .int .i64 s.ln, .slice (some ⟨s.g, 0, none⟩) 3 s.c])
  have hlen : xs.length = 3 := by have := HX.out.1; rw [nums_length] at this; omega
  have hh := (own_holdsS HX.out).1.keep fun k hk => Below.heap_alloc W (.cells #[.int .i64 (j : Int), .int .i64 s.st, .int .i64 s.ow, .int .i64 s.ep, .int .i64 s.ln, .slice (some ⟨s.g, 0, none⟩) 3 s.c] 37) k hk
  refine (clone_any (c := s.c) hh hlen (by simp) (by omega)).mono ?_
  rintro e w2 ⟨v, rfl, h1, h2⟩
  unfold NewInts at h1
  rw [hlen] at h1
  obtain ⟨A', c', rfl⟩ := own_form h1
  have hX2 := hX.below h2 (by simp)
  have hZ2 := ((HZ.out.alloc _).below h2 (by have := HZ.out.lt; simp; omega))
  obtain ⟨x0, x1, x2, x3, x4, x5⟩ := agg6 hX2
  obtain ⟨z0, z1, z2, z3, z4, z5⟩ := agg6 hZ2
  have fx := hX2.frozen 5
  have f0 := hZ2.frozen 0; have f1 := hZ2.frozen 1; have f2 := hZ2.frozen 2; have f3 := hZ2.frozen 3; have f4 := hZ2.frozen 4; have f5 := hZ2.frozen 5
  have hne : W.heap.size ≠ w.heap.size := by have := HS.out; omega
  have hne2 : w.heap.size ≠ W.heap.size := Ne.symm hne
  have HL := hid hlen
  have H1 := hid h1
  have H2 := hid h2
  clear h1 h2 hX hX2 hZ2 hh hlen
  go_wp2_with fail
  refine bodyPost_ret (v := .tuple #[.agg #[.int .i64 j, .int .i64 s.st, .int .i64 s.ow, .int .i64 s.ep, .int .i64 s.ln, .slice A' 3 c'], .bool true]) (by simp [results, Tryz.results44, go_sem, z0, z1, z2, z3, z4, z5]) rfl ⟨_, rfl, ⟨xs, ?_⟩, ?_⟩
  · have hs1 := HS.out
    have hq : ∀ (V : World) (b i : Nat) (u : Value), b < W.heap.size + 1 → V.ownsRow (W.heap.size + 1) 3 1 (.slice A' 3 c') 3 (nums xs) → (V.setCell ⟨b, i, none⟩ u).ownsRow (W.heap.size + 1) 3 1 (.slice A' 3 c') 3 (nums xs) := fun V b i u hb h => own_far h b i hb u
    have h := H1.out
    simp only [World.alloc, Array.size_push] at h
    exact own_lower (hq _ _ _ _ (by omega) (hq _ _ _ _ (by omega) (hq _ _ _ _ (by omega) (hq _ _ _ _ (by omega) (hq _ _ _ _ (by omega) (hq _ _ _ _ (by omega) (hq _ _ _ _ (by omega) h))))))) (by omega)
  · have hs1 := HS.out
    have h2 := (((HB.out.alloc (by omega) _).trans (H2.out.mono (by simp; omega))).setCell (p := ⟨W.heap.size, 5, none⟩) (by show w.heap.size ≤ W.heap.size; omega) (.slice A' 3 c'))
    exact below_six (Nat.le_refl _) h2
end
end Go.Proofs.YtopbojifllnckaaGreatDoor
namespace Go.Proofs.YtopbojifllnckaaGreatDoor
open Go.RowKit
attribute [local irreducible] wpQuiet
/-- How a call of a map of stripes ends. -/
def SEnd (S : Nat → Prop) (w : World) (g : Nat) (L' : List Str) (w' : World) : Prop := Smp S w' g L' ∧ Only S w w' ∧ w'.heap.size = w.heap.size
section
variable {S : Nat → Prop} {w w' : World} {g r : Nat} {L : List Str}
/-- A state is written. -/
theorem AtS.state (h : AtS S w g L r) {j : Nat} {s : Str} (hs : L[j]? = some s) (v : Int) : AtS S (w.setCell ⟨r, j * 6 + 1, none⟩ (.int .i64 v)) g (L.set j { s with st := v }) r := by
  obtain ⟨⟨c, op, h1, h2⟩, h3, h4, h5⟩ := h
  rcases own_blk h2 with ⟨h6, _⟩ | ⟨r', cur, h6, _, h7, h8, h9, h10, h11⟩
  · cases h6
  cases h6
  have hst := h2.stored (j * 6 + 1) (.int .i64 v)
  have hsl : (L.set j { s with st := v }).length = L.length := List.length_set
  refine ⟨⟨c, op, ?_, ?_⟩, h3, h4, fun t ht => ?_⟩
  · rw [hsl]
    exact h1.far (h1.ne_ h7 (by decide)) _
  · rw [hsl]
    have := rowS_set L 0 j s v hs
    rw [← this]
    exact hst.1
  · rcases List.mem_or_eq_of_mem_set ht with ht | rfl
    · obtain ⟨h12, xs, h13⟩ := h5 t ht
      exact ⟨h12, xs, own_at h13 fun ad e hlt => Below.heap_setCell w _ _ _ (by
        cases e
        rcases own_blk h13 with ⟨h14, _⟩ | ⟨q, cur', h14, _, h15, _⟩
        · cases h14
        · cases h14
          exact h15.ne_ h7 (by decide))⟩
    · obtain ⟨h12, xs, h13⟩ := h5 s (List.mem_of_getElem? hs)
      refine ⟨h12, xs, own_at h13 fun ad e hlt => Below.heap_setCell w _ _ _ (by
        cases e
        rcases own_blk h13 with ⟨h14, _⟩ | ⟨q, cur', h14, _, h15, _⟩
        · cases h14
        · cases h14
          exact h15.ne_ h7 (by decide))⟩
theorem AtS.frozen (h : AtS S w g L r) (i : Nat) : w.frozen? ⟨r, i, none⟩ = false := by
  obtain ⟨⟨c, op, h1, h2⟩, _⟩ := h
  exact h2.frozenAt i
theorem Smp.blk (h : Smp S w g L) : ∃ A c op, Blk w g 156 #[.slice A L.length c, .int .i64 op] ∧ S g := by
  obtain ⟨A, c, op, h1, _, h3, _⟩ := h
  exact ⟨A, c, op, h1, h3⟩
end
end Go.Proofs.YtopbojifllnckaaGreatDoor
