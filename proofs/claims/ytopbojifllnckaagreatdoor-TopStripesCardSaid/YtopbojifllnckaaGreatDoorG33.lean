/- An array in memory: all its parts, each with its own blocks. The map of stripes, by what it has. The manager of an array: close, fail. The manager of an array: begin. -/
import Derived.Deep.DeepCutAuto
import Derived.StillTailTactics
import Derived.Test.YtopbojifllnckaaGreatDoorG32
import Derived.Test.YtopbojifllnckaaGreatDoorG24
namespace Go.Proofs.YtopbojifllnckaaGreatDoor
open Go.RowKit
attribute [local irreducible] wpQuiet
/-- A stripe that is known: its state, length, servers. -/
structure SS where
  st : Int
  ln : Nat
  xs : List Int
def viewS (s : F.Str) : Int × Int × Int × Int × List Int := (s.st, s.ow, s.ep, s.ln, s.xs)
def viewT (s : SS) : Int × Int × Int × Int × List Int := (s.st, 3, 1, s.ln, s.xs)
def SmpV (S : Nat → Prop) (w : World) (g : Nat) (l : List SS) : Prop := ∃ L : List F.Str, F.Smp S w g L ∧ L.map viewS = l.map viewT
/-- All that an array is. -/
structure X where
  a : Nat
  sg : Nat
  gm : Nat
  p1 : Nat
  p2 : Nat
  p4 : Nat
  p6 : Nat
  g : Nat → Nat
  d : Nat → Nat
  G : GS
  L : List SS
  N : Nat
  f : Int → Int
  q : Int → Int
  gone : Int
  dn : Nat → Bool
  ls : Nat → Bool
  C : Nat → List Fr
/-- The manager's own block. -/
def MgrB (S : Nat → Prop) (w : World) (x : X) : Prop :=
  S x.gm ∧ ∃ b3 b5 : Nat, Blk w x.gm 82 #[.pointer (some ⟨x.p1, 0, none⟩), .pointer (some ⟨x.p2, 0, none⟩), .pointer (some ⟨b3, 0, none⟩), .pointer (some ⟨x.p4, 0, none⟩), .pointer (some ⟨b5, 0, none⟩), .pointer (some ⟨x.p6, 0, none⟩), .int .i64 x.gone]
/-- The array's own block. -/
def ArrB (S : Nat → Prop) (w : World) (a sg gm : Nat) (q : Int → Int) : Prop :=
  S a ∧ ∃ cs : Array Value, Blk w a 100 cs ∧ cs.size = 19 ∧ cs[0]? = some (.pointer (some ⟨sg, 0, none⟩)) ∧ cs[1]? = some (.pointer (some ⟨gm, 0, none⟩)) ∧ cs[2]? = some (.int .i64 4) ∧ ∀ i, i < 16 → cs[3 + i]? = some (.int .i64 (q i))
/-- The parts, by numbers. -/
def part (x : X) (i : Nat) (S : Nat → Prop) (w : World) : Prop := match i with
  | 1 => Grp4 S w x.p1 x.G
  | 2 => SmpV S w x.p2 x.L
  | 4 => Usg S w x.p4 x.N
  | 6 => Rep S w x.p6 x.N x.f
  | 7 => MgrB S w x
  | 8 => ArrB S w x.a x.sg x.gm x.q
  | 9 => Srvs S w x.sg x.g x.d x.dn x.ls
  | n + 11 => n < 5 → Store S w (x.g n) (x.d n) (x.C n)
  | _ => True
section
variable {S S' : Nat → Prop} {w w' : World} {g : Nat} {l : List SS}
theorem SmpV.keep (h : SmpV S w g l) (hk : ∀ k, S k → k < w.heap.size → w'.heap[k]? = w.heap[k]?) : SmpV S w' g l := by
  obtain ⟨L, h1, h2⟩ := h
  exact ⟨L, h1.keep hk, h2⟩
theorem SmpV.mono (h : SmpV S w g l) (hS : ∀ k, S k → S' k) : SmpV S' w g l := by
  obtain ⟨L, h1, h2⟩ := h
  exact ⟨L, h1.mono hS, h2⟩
theorem view_len {L : List F.Str} (h : L.map viewS = l.map viewT) : L.length = l.length := by
  have := congrArg List.length h
  simpa using this
theorem view_at {L : List F.Str} (h : L.map viewS = l.map viewT) {j : Nat} {t : SS} (hj : l[j]? = some t) : ∃ s, L[j]? = some s ∧ s.st = t.st ∧ s.ow = 3 ∧ s.ep = 1 ∧ s.ln = t.ln ∧ s.xs = t.xs := by
  have h1 := congrArg (fun m => m[j]?) h
  simp only [List.getElem?_map, hj, Option.map_some] at h1
  rw [Option.map_eq_some_iff] at h1
  obtain ⟨s, hs, he⟩ := h1
  simp only [viewS, viewT, Prod.mk.injEq] at he
  exact ⟨s, hs, he⟩
theorem view_back {L : List F.Str} (h : L.map viewS = l.map viewT) {s : F.Str} (hs : s ∈ L) : ∃ t ∈ l, s.st = t.st ∧ s.ow = 3 ∧ s.ep = 1 ∧ s.ln = t.ln ∧ s.xs = t.xs := by
  have h1 : viewS s ∈ l.map viewT := by rw [← h]; exact List.mem_map_of_mem hs
  obtain ⟨t, ht, he⟩ := List.mem_map.1 h1
  simp only [viewS, viewT, Prod.mk.injEq] at he
  exact ⟨t, ht, he.1.symm, he.2.1.symm, he.2.2.1.symm, he.2.2.2.1.symm, he.2.2.2.2.symm⟩
theorem MgrB.keep {x : X} (h : MgrB S w x) (hk : ∀ k, S k → k < w.heap.size → w'.heap[k]? = w.heap[k]?) : MgrB S w' x := by
  obtain ⟨h1, b3, b5, h2⟩ := h
  exact ⟨h1, b3, b5, (hk _ h1 h2.lt).trans h2⟩
theorem ArrB.keep {a sg gm : Nat} {q : Int → Int} (h : ArrB S w a sg gm q) (hk : ∀ k, S k → k < w.heap.size → w'.heap[k]? = w.heap[k]?) : ArrB S w' a sg gm q := by
  obtain ⟨h1, cs, h2, h3⟩ := h
  exact ⟨h1, cs, (hk _ h1 h2.lt).trans h2, h3⟩
theorem part_keep {x : X} {i : Nat} (h : part x i S w) (hk : ∀ k, S k → k < w.heap.size → w'.heap[k]? = w.heap[k]?) : part x i S w' := by
  unfold part at h ⊢
  split at h
  · exact Grp4.keep h hk
  · exact SmpV.keep h hk
  · exact Usg.keep h hk
  · exact Rep.keep h hk
  · exact MgrB.keep h hk
  · exact ArrB.keep h hk
  · exact Srvs.keep h hk
  · exact fun hn => (h hn).keep hk
  · trivial
end
/-- The array in memory: the parts' blocks are told by T. -/
structure Arr (B : Nat) (T : Nat → Nat) (w : World) (x : X) : Prop where
  fits : Fits T B w
  all : ∀ i, i ≠ 0 → part x i (fun k => T k = i) w
section
variable {B : Nat} {T : Nat → Nat} {w w' : World} {x y : X}
theorem Arr.below (h : Arr B T w x) (hb : Below w.heap.size w w') : Arr B T w' x := ⟨h.fits.below hb, fun i hi => part_keep (h.all i hi) fun k _ hk => hb.block k hk⟩
/-- Part i is turned. -/
theorem Arr.turn (h : Arr B T w x) (i : Nat) (hi : i ≠ 0) (ho : Only (fun k => T k = i) w w') (hp : part y i (Grow (fun k => T k = i) w w') w') (he : ∀ j, j ≠ i → ∀ S w, part x j S w → part y j S w) :
    Arr B (tagG T i w w') w' y ∧ Goes T w (tagG T i w w') w' := by
  refine ⟨⟨h.fits.part ho.size, fun j hj => ?_⟩, Goes.part hi ho⟩
  by_cases e : j = i
  · subst e
    rcases tagG_own (T := T) (i := j) (w := w) (w' := w') with e | e
    · rw [e]; exact hp
    · exact absurd e hi
  · rw [tagG_other (w' := w') h.fits e hj]
    exact he j e _ _ (part_keep (h.all j hj) fun k hk hl => ho.block k hl (by rw [hk]; exact e))
/-- Part i is turned in its own blocks. -/
theorem Arr.stay (h : Arr B T w x) (i : Nat) (hi : i ≠ 0) (ho : Only (fun k => T k = i) w w') (hz : w'.heap.size = w.heap.size) (hp : part y i (fun k => T k = i) w') (he : ∀ j, j ≠ i → ∀ S w, part x j S w → part y j S w) :
    Arr B T w' y ∧ Goes T w T w' := by
  refine ⟨⟨⟨by rw [hz]; exact h.fits.1, fun k hk => by rw [hz]; exact h.fits.2 k hk⟩, fun j hj => ?_⟩, ho.mono fun k hk => by rw [hk]; exact hi, fun k _ h => h⟩
  by_cases e : j = i
  · subst e
    exact hp
  · exact he j e _ _ (part_keep (h.all j hj) fun k hk hl => ho.block k hl (by rw [hk]; exact e))
theorem Arr.inn (h : Arr B T w x) {i : Nat} (hi : i ≠ 0) : ∀ k, T k = i → k < w.heap.size := fun k hk => (h.fits.2 k (by rw [hk]; exact hi)).2
theorem part_G (G : GS) : ∀ j, j ≠ 1 → ∀ S w, part x j S w → part { x with G := G } j S w := by
  intro j hj S w h
  unfold part at h ⊢
  split at h <;> first | exact absurd rfl hj | exact h
theorem part_L (L : List SS) : ∀ j, j ≠ 2 → ∀ S w, part x j S w → part { x with L := L } j S w := by
  intro j hj S w h
  unfold part at h ⊢
  split at h <;> first | exact absurd rfl hj | exact h
theorem part_gone (z : Int) : ∀ j, j ≠ 7 → ∀ S w, part x j S w → part { x with gone := z } j S w := by
  intro j hj S w h
  unfold part at h ⊢
  split at h <;> first | exact absurd rfl hj | exact h
theorem part_f (f : Int → Int) : ∀ j, j ≠ 6 → ∀ S w, part x j S w → part { x with f := f } j S w := by
  intro j hj S w h
  unfold part at h ⊢
  split at h <;> first | exact absurd rfl hj | exact h
theorem part_q (q : Int → Int) : ∀ j, j ≠ 8 → ∀ S w, part x j S w → part { x with q := q } j S w := by
  intro j hj S w h
  unfold part at h ⊢
  split at h <;> first | exact absurd rfl hj | exact h
theorem part_dn (dn : Nat → Bool) : ∀ j, j ≠ 9 → ∀ S w, part x j S w → part { x with dn := dn } j S w := by
  intro j hj S w h
  unfold part at h ⊢
  split at h <;> first | exact absurd rfl hj | exact h
theorem part_ls (ls : Nat → Bool) : ∀ j, j ≠ 9 → ∀ S w, part x j S w → part { x with ls := ls } j S w := by
  intro j hj S w h
  unfold part at h ⊢
  split at h <;> first | exact absurd rfl hj | exact h
theorem part_C (i : Nat) (c : List Fr) : ∀ j, j ≠ i + 11 → ∀ S w, part x j S w → part { x with C := upd x.C i c } j S w := by
  intro j hj S w h
  unfold part at h ⊢
  split at h <;> first | exact h | skip
  rename_i n
  intro hn
  show Store S w (x.g n) (x.d n) (upd x.C i c n)
  rw [upd_other _ _ (fun e => hj (by rw [e]))]
  exact h hn
theorem Arr.more (h : Arr B T w x) {M : Nat} (hM : x.N ≤ M) : Arr B T w { x with N := M } := by
  refine ⟨h.fits, fun i hi => ?_⟩
  have hp := h.all i hi
  unfold part at hp ⊢
  split at hp
  · exact hp
  · exact hp
  · exact Usg.mono hp (fun _ h => h) hM
  · exact Rep.mono hp (fun _ h => h) hM
  · exact hp
  · exact hp
  · exact hp
  · exact hp
  · trivial
theorem Arr.grp (h : Arr B T w x) : Grp4 (fun k => T k = 1) w x.p1 x.G := h.all 1 (by decide)
theorem Arr.smp (h : Arr B T w x) : SmpV (fun k => T k = 2) w x.p2 x.L := h.all 2 (by decide)
theorem Arr.usg (h : Arr B T w x) : Usg (fun k => T k = 4) w x.p4 x.N := h.all 4 (by decide)
theorem Arr.rep (h : Arr B T w x) : Rep (fun k => T k = 6) w x.p6 x.N x.f := h.all 6 (by decide)
theorem Arr.mgr (h : Arr B T w x) : MgrB (fun k => T k = 7) w x := h.all 7 (by decide)
theorem Arr.arr (h : Arr B T w x) : ArrB (fun k => T k = 8) w x.a x.sg x.gm x.q := h.all 8 (by decide)
theorem Arr.srv (h : Arr B T w x) : Srvs (fun k => T k = 9) w x.sg x.g x.d x.dn x.ls := h.all 9 (by decide)
theorem Arr.sto (h : Arr B T w x) {i : Nat} (hi : i < 5) : Store (fun k => T k = i + 11) w (x.g i) (x.d i) (x.C i) := h.all (i + 11) (by omega) hi
theorem Arr.mcell (h : Arr B T w x) (i : Nat) (v : Value) (hv : #[Value.pointer (some ⟨x.p1, 0, none⟩), .pointer (some ⟨x.p2, 0, none⟩), .bool true, .pointer (some ⟨x.p4, 0, none⟩), .bool true, .pointer (some ⟨x.p6, 0, none⟩), .int .i64 x.gone][i]? = some v) (h2 : i ≠ 2) (h4 : i ≠ 4) : w.cell? ⟨x.gm, i, none⟩ = some v := by
  obtain ⟨_, b3, b5, hg⟩ := h.mgr
  rw [hg.cell, ← hv]
  match i with
  | 0 => rfl
  | 1 => rfl
  | 3 => rfl
  | 5 => rfl
  | 6 => rfl
  | n + 7 => rfl
theorem Arr.mlt (h : Arr B T w x) : x.gm < w.heap.size := by
  obtain ⟨_, b3, b5, hg⟩ := h.mgr
  exact hg.lt
theorem Arr.alt (h : Arr B T w x) : x.a < w.heap.size := by
  obtain ⟨_, cs, hg, _⟩ := h.arr
  exact hg.lt
theorem Arr.acell (h : Arr B T w x) : w.cell? ⟨x.a, 0, none⟩ = some (.pointer (some ⟨x.sg, 0, none⟩)) ∧ w.cell? ⟨x.a, 1, none⟩ = some (.pointer (some ⟨x.gm, 0, none⟩)) ∧ w.cell? ⟨x.a, 2, none⟩ = some (.int .i64 4) := by
  obtain ⟨_, cs, hg, _, h0, h1, h2, _⟩ := h.arr
  exact ⟨(hg.cell 0).trans h0, (hg.cell 1).trans h1, (hg.cell 2).trans h2⟩
theorem Arr.gone_ (h : Arr B T w x) (z : Int) : Arr B T (w.setCell ⟨x.gm, 6, none⟩ (.int .i64 z)) { x with gone := z } ∧ Goes T w T (w.setCell ⟨x.gm, 6, none⟩ (.int .i64 z)) := by
  obtain ⟨h1, b3, b5, hg⟩ := h.mgr
  exact h.stay 7 (by decide) (setS (S := fun k => T k = 7) h1 _ _ (Only.refl _ _)) (by simp [World.setCell]) ⟨h1, b3, b5, hg.set_ 6 _⟩ (part_gone z)
end
end Go.Proofs.YtopbojifllnckaaGreatDoor
namespace Go.Proofs.YtopbojifllnckaaGreatDoor
open Go.RowKit
attribute [local irreducible] wpQuiet
section
variable {S : Nat → Prop} {w w' : World} {g : Nat} {l : List SS}
theorem own_q {w : World} {base c n : Nat} {A : Option Addr} {xs : List Value} (h : w.ownsRow base 3 1 (.slice A n c) n xs) (hn : 0 < n) : ∃ q, A = some ⟨q, 0, none⟩ ∧ base ≤ q ∧ q < w.heap.size ∧ n ≤ c ∧ c ≤ maxLen := by
  rcases own_blk h with ⟨_, h0, _⟩ | ⟨q, cur, rfl, h1, h2, h3, h4, _⟩
  · omega
  · exact ⟨q, rfl, h1, h2.lt, h3, h4⟩
theorem vGet (h : SmpV S w g l) {j : Nat} {t : SS} (hj : l[j]? = some t) : Calls Tryz.prog 44 #[.pointer (some ⟨g, 0, none⟩), .int .i64 j] w fun e w' => ∃ q c : Nat, e = .returned (.tuple #[.agg #[.int .i64 j, .int .i64 t.st, .int .i64 3, .int .i64 1, .int .i64 t.ln, .slice (some ⟨q, 0, none⟩) 4 c], .bool true]) ∧
    w'.ownsRow w.heap.size 3 1 (.slice (some ⟨q, 0, none⟩) 4 c) 4 (nums t.xs) ∧ Below w.heap.size w w' := by
  obtain ⟨L, h1, h2⟩ := h
  obtain ⟨s, hs, e1, e2, e3, e4, e5⟩ := view_at h2 hj
  obtain ⟨r, hr⟩ := h1.at_ (List.getElem?_eq_some_iff.1 hs).1
  refine (F.sGet_ok hr j s hs).mono ?_
  rintro e w' ⟨v, rfl, h3, h4⟩
  unfold F.Own4 at h3
  obtain ⟨A, c, rfl⟩ := own_form h3
  obtain ⟨q, rfl, _⟩ := own_q h3 (by omega)
  refine ⟨q, c, ?_, ?_, h4⟩
  · rw [e1, e2, e3, e4]
  · rw [← e5]; exact h3
theorem vBegin (h : SmpV S w g l) (hSB : ∀ k, S k → k < w.heap.size) (ln : Nat) {A : Option Addr} {c B : Nat} {xs : List Int} (hh : Holds w B A (nums xs)) (hB : B ≤ w.heap.size) (hx : xs.length = 4) (hL : l.length < 200) (hg : grpB xs = true) (hln : ln ≤ 65536) :
    Calls Tryz.prog 156 #[.pointer (some ⟨g, 0, none⟩), .int .i64 3, .int .i64 1, .int .i64 ln, .slice A 4 c] w fun e w' => e = .returned (.tuple #[.int .i64 l.length, .int .i64 0]) ∧ SmpV (Grow S w w') w' g (l ++ [⟨1, ln, xs⟩]) ∧ Only S w w' := by
  obtain ⟨L, h1, h2⟩ := h
  have hl := view_len h2
  refine (F.sBegin4 h1 hSB 3 1 ln hh hB hx (by omega) hg ⟨by omega, by omega, by omega, by omega, by omega⟩).mono ?_
  rintro e w' ⟨h3, q, c', rfl, h4⟩
  exact ⟨by rw [hl], ⟨_, h4, by rw [List.map_append, List.map_append, h2]; rfl⟩, h3⟩
theorem vCommit (h : SmpV S w g l) {j : Nat} {t : SS} (hj : l[j]? = some t) (ht : t.st = 1) : Calls Tryz.prog 158 #[.pointer (some ⟨g, 0, none⟩), .int .i64 j, .int .i64 3] w fun e w' => e = .returned (.int .i64 0) ∧ SmpV S w' g (l.set j { t with st := 2 }) ∧ Only S w w' ∧ w'.heap.size = w.heap.size := by
  obtain ⟨L, h1, h2⟩ := h
  obtain ⟨s, hs, e1, e2, e3, e4, e5⟩ := view_at h2 hj
  have hc := F.sCommit4 h1 hs (by rw [e1]; exact ht)
  rw [e2] at hc
  refine hc.mono ?_
  rintro e w' ⟨rfl, h3, h4, h5⟩
  refine ⟨rfl, ⟨_, h3, ?_⟩, h4, h5⟩
  rw [List.map_set, List.map_set, h2]
  congr 1
  simp [viewS, viewT, e3, e4, e5]
theorem vMove (h : SmpV S w g l) {j : Nat} {t : SS} (hj : l[j]? = some t) (jx : Nat) (x : Int) (hj4 : jx < 4) (hx : 0 ≤ x ∧ x < 64) (hno : x ∉ t.xs) (hst : t.st ≠ 3) :
    Calls Tryz.prog 168 #[.pointer (some ⟨g, 0, none⟩), .int .i64 j, .int .i64 jx, .int .i64 x] w fun e w' => e = .returned (.int .i64 0) ∧ SmpV S w' g (l.set j { t with xs := t.xs.set jx x }) ∧ Only S w w' ∧ w'.heap.size = w.heap.size := by
  obtain ⟨L, h1, h2⟩ := h
  obtain ⟨s, hs, e1, e2, e3, e4, e5⟩ := view_at h2 hj
  refine (F.sMove4 h1 hs jx x hj4 hx (by rw [e5]; exact hno) (by rw [e1]; exact hst)).mono ?_
  rintro e w' ⟨rfl, h3, h4, h5⟩
  refine ⟨rfl, ⟨_, h3, ?_⟩, h4, h5⟩
  rw [List.map_set, List.map_set, h2]
  congr 1
  simp [viewS, viewT, e1, e2, e3, e4, e5]
theorem vOn (h : SmpV S w g l) (hSB : ∀ k, S k → k < w.heap.size) (hL : l.length ≤ 100000) (x : Int) (hall : ∀ t ∈ l, t.st ≠ 3 ∧ x ∈ t.xs) :
    Calls Tryz.prog 167 #[.pointer (some ⟨g, 0, none⟩), .int .i64 x] w fun e w' => ∃ v, e = .returned v ∧ w'.ownsRow w.heap.size 3 1 v l.length (nums (F.upto l.length)) ∧ Below w.heap.size w w' := by
  obtain ⟨L, h1, h2⟩ := h
  have hl := view_len h2
  rw [← hl]
  refine F.sOn4 h1 hSB (by omega) x fun s hs => ?_
  obtain ⟨t, ht, e1, _, _, _, e5⟩ := view_back h2 hs
  rw [e1, e5]
  exact hall t ht
theorem vList (h : SmpV S w g l) (hSB : ∀ k, S k → k < w.heap.size) (hL : l.length ≤ 100000) (x : Int) (hall : ∀ t ∈ l, t.st = x) :
    Calls Tryz.prog 121 #[.pointer (some ⟨g, 0, none⟩), .int .i64 x] w fun e w' => ∃ v, e = .returned v ∧ w'.ownsRow w.heap.size 3 1 v l.length (nums (F.upto l.length)) ∧ Below w.heap.size w w' := by
  obtain ⟨L, h1, h2⟩ := h
  have hl := view_len h2
  rw [← hl]
  refine F.sList4 h1 hSB (by omega) x fun s hs => ?_
  obtain ⟨t, ht, e1, _⟩ := view_back h2 hs
  rw [e1]
  exact hall t ht
end
end Go.Proofs.YtopbojifllnckaaGreatDoor
namespace Go.Proofs.YtopbojifllnckaaGreatDoor
open Go.RowKit
attribute [local irreducible] wpQuiet
/-- What a command's function gives: numbers; the array behind it. -/
def CEnd (B : Nat) (T : Nat → Nat) (w : World) (y : X) (l : List Int) (e : Ending) (w' : World) : Prop :=
  ∃ A n c, ∃ T' : Nat → Nat, e = .returned (.tuple #[.slice A n c, .int .i64 0]) ∧ l.length = n ∧ Holds w' w'.heap.size A (nums l) ∧ Arr B T' w' y ∧ Goes T w T' w'
/-- Numbers that lie in a block just made. -/
theorem holds_made (w : World) (l : List Int) (t : TypeId) (arr : Array Value) (ha : arr.toList = nums l) : Holds (w.alloc (.cells arr t)) (w.alloc (.cells arr t)).heap.size (some ⟨w.heap.size, 0, none⟩) (nums l) := fun _ =>
  ⟨_, rfl, by simp, fun j u hu => by
    rw [add_plain, (Blk.new w t arr).cell, ← ha] at *
    rw [← hu]
    simp⟩
theorem holds_none (w : World) (B : Nat) : Holds w B none (nums []) := fun h => by simp [nums] at h
section
variable {B : Nat} {T : Nat → Nat} {w w' : World} {x : X}
set_option maxRecDepth 100000 in
set_option maxHeartbeats 1600000 in
theorem mclose (h : Arr B T w x) (hf : x.G.fil = true) (hep : 0 ≤ x.G.ep ∧ x.G.ep < 1000) (cl sq kd b c d e : Int) :
    Calls Tryz.prog 99 #[.pointer (some ⟨x.gm, 0, none⟩), .agg #[.int .i64 cl, .int .i64 sq, .int .i64 kd, .int .i64 x.G.ep, .int .i64 b, .int .i64 c, .int .i64 d, .int .i64 e]] w
      (CEnd B T w { x with G := { x.G with ep := x.G.ep + 1, hole := -1, fil := false, gone := -1 } } [x.G.ep + 1]) := by
  obtain ⟨y, hy⟩ : ∃ y : X, y = { x with G := { x.G with ep := x.G.ep + 1, hole := -1, fil := false, gone := -1 } } := ⟨_, rfl⟩
  rw [← hy]
  obtain ⟨gm, hgm⟩ : ∃ gm, gm = x.gm := ⟨_, rfl⟩
  obtain ⟨p1, hp1⟩ : ∃ p1, p1 = x.p1 := ⟨_, rfl⟩
  obtain ⟨a, ha⟩ : ∃ a, a = x.G.ep := ⟨_, rfl⟩
  obtain ⟨W, hW⟩ : ∃ W, W = w.alloc (.cells #[.int .i64 cl, .int .i64 sq, .int .i64 kd, .int .i64 a, .int .i64 b, .int .i64 c, .int .i64 d, .int .i64 e] 30) := ⟨_, rfl⟩
  have hb : Below w.heap.size w W := by rw [hW]; exact (Below.refl _ _).alloc (Nat.le_refl _) _
  have hBx : Blk W w.heap.size 30 #[.int .i64 cl, .int .i64 sq, .int .i64 kd, .int .i64 a, .int .i64 b, .int .i64 c, .int .i64 d, .int .i64 e] := by rw [hW]; exact Blk.new w 30 _
  have hm := h.below hb
  have b3 : W.cell? ⟨w.heap.size, 3, none⟩ = some (.int .i64 a) := (hBx.cell 3).trans rfl
  have hgl : gm < W.heap.size := by rw [hgm]; exact hm.mlt
  have hbl := hBx.lt
  have g0 : W.cell? ⟨gm, 0, none⟩ = some (.pointer (some ⟨p1, 0, none⟩)) := by rw [hgm, hp1]; exact hm.mcell 0 _ rfl (by decide) (by decide)
  have hcall : Hid (∀ W2, W2 = W.drewN 1 → Calls Tryz.prog 170 #[.pointer (some ⟨p1, 0, none⟩), .int .i64 a] W2 fun e0 w' => e0 = .returned (.int .i64 0) ∧ ∃ T', Arr B T' w' y ∧ Goes T w T' w') := by
    show ∀ W2, _
    intro W2 hW2
    have hb2 : Below W.heap.size W W2 := by rw [hW2]; exact below_drewN (Below.refl _ _) 1
    have hm2 := hm.below hb2
    rw [hp1, ha]
    refine (gDone4 hm2.grp hf hep).mono ?_
    rintro e0 w' ⟨he, h1, h2, h3⟩
    obtain ⟨m1, m2⟩ := hm2.turn (y := y) 1 (by decide) h2 (by rw [hy]; exact h1.mono fun _ h => .inl h) (by rw [hy]; exact part_G _)
    exact ⟨he, _, m1, (Goes.below (hb.trans (hb2.mono hb.size))).trans m2⟩
  have hyg : y.gm = gm ∧ y.p1 = p1 ∧ y.G.ep = a + 1 := by rw [hy, hgm, hp1, ha]; exact ⟨rfl, rfl, rfl⟩
  rw [← hgm, ← ha]
  clear hm hBx hb h hy hgm hp1 ha hf hep
  go_enter Tryz.func99, Tryz.ntmps99
  go_upto_region 1 with (fail)
  rw [← hW]
  clear hW
  go_still_tail 6, (by kernel_rfl)
  change wpList _ _ _ _ _ (W.drewN 1)
  go_wp2_with fail
  refine (hcall.out _ rfl).mono ?_
  rintro e w' ⟨rfl, T', hx, hy⟩
  have HX := hid hx
  have HY := hid hy
  have q0 : w'.cell? ⟨gm, 0, none⟩ = some (.pointer (some ⟨p1, 0, none⟩)) := by rw [← hyg.1, ← hyg.2.1]; exact hx.mcell 0 _ rfl (by decide) (by decide)
  have hgl' : gm < w'.heap.size := by rw [← hyg.1]; exact hx.mlt
  have hep := gEpoch4 hx.grp
  rw [hyg.2.1, hyg.2.2] at hep
  have HE := hid hep
  clear hx hy g0 b3 hep
  go_wp2_with fail
  refine HE.out.mono ?_
  rintro e w2 ⟨rfl, rfl⟩
  go_wp2_with fail
  go_ret2
  have hbb := (Below.refl w'.heap.size w').alloc (Nat.le_refl _) (.cells #[.int .i64 (a + 1)] 3)
  exact ⟨_, 1, 1, T', rfl, rfl, holds_made w' [a + 1] 3 _ rfl, HX.out.below hbb, HY.out.trans (Goes.below hbb)⟩
set_option maxRecDepth 100000 in
set_option maxHeartbeats 1600000 in
theorem mfail (h : Arr B T w x) (k : Nat) (a : Int) (hk : atI x.G.xs a = k) (hh : x.G.hole = -1) (hep : 0 ≤ x.G.ep ∧ x.G.ep < 1000) (cl sq kd c d e : Int) :
    Calls Tryz.prog 97 #[.pointer (some ⟨x.gm, 0, none⟩), .agg #[.int .i64 cl, .int .i64 sq, .int .i64 kd, .int .i64 a, .int .i64 x.G.ep, .int .i64 c, .int .i64 d, .int .i64 e]] w
      (CEnd B T w { x with G := { x.G with ep := x.G.ep + 1, hole := k, fil := false, gone := a }, gone := a } [x.G.ep + 1]) := by
  obtain ⟨y, hy⟩ : ∃ y : X, y = { x with G := { x.G with ep := x.G.ep + 1, hole := k, fil := false, gone := a } } := ⟨_, rfl⟩
  obtain ⟨z, hz⟩ : ∃ z : X, z = { y with gone := a } := ⟨_, rfl⟩
  have hzz : z = { x with G := { x.G with ep := x.G.ep + 1, hole := k, fil := false, gone := a }, gone := a } := by rw [hz, hy]
  rw [← hzz]
  obtain ⟨gm, hgm⟩ : ∃ gm, gm = x.gm := ⟨_, rfl⟩
  obtain ⟨p1, hp1⟩ : ∃ p1, p1 = x.p1 := ⟨_, rfl⟩
  obtain ⟨b, hbe⟩ : ∃ b, b = x.G.ep := ⟨_, rfl⟩
  obtain ⟨W, hW⟩ : ∃ W, W = w.alloc (.cells #[.int .i64 cl, .int .i64 sq, .int .i64 kd, .int .i64 a, .int .i64 b, .int .i64 c, .int .i64 d, .int .i64 e] 30) := ⟨_, rfl⟩
  have hb : Below w.heap.size w W := by rw [hW]; exact (Below.refl _ _).alloc (Nat.le_refl _) _
  have hBx : Blk W w.heap.size 30 #[.int .i64 cl, .int .i64 sq, .int .i64 kd, .int .i64 a, .int .i64 b, .int .i64 c, .int .i64 d, .int .i64 e] := by rw [hW]; exact Blk.new w 30 _
  have hm := h.below hb
  have hT0 : T w.heap.size = 0 := h.fits.zero (Nat.le_refl _)
  have b3 : W.cell? ⟨w.heap.size, 3, none⟩ = some (.int .i64 a) := (hBx.cell 3).trans rfl
  have b4 : W.cell? ⟨w.heap.size, 4, none⟩ = some (.int .i64 b) := (hBx.cell 4).trans rfl
  have hgl : gm < W.heap.size := by rw [hgm]; exact hm.mlt
  have hbl := hBx.lt
  have g0 : W.cell? ⟨gm, 0, none⟩ = some (.pointer (some ⟨p1, 0, none⟩)) := by rw [hgm, hp1]; exact hm.mcell 0 _ rfl (by decide) (by decide)
  have hcall : Hid (∀ W2, W2 = W.drewN 1 → Calls Tryz.prog 165 #[.pointer (some ⟨p1, 0, none⟩), .int .i64 a, .int .i64 b] W2 fun e0 w' => e0 = .returned (.int .i64 0) ∧ ∃ T', Arr B T' w' y ∧ Goes T w T' w' ∧ Blk w' w.heap.size 30 #[.int .i64 cl, .int .i64 sq, .int .i64 kd, .int .i64 a, .int .i64 b, .int .i64 c, .int .i64 d, .int .i64 e]) := by
    show ∀ W2, _
    intro W2 hW2
    have hb2 : Below W.heap.size W W2 := by rw [hW2]; exact below_drewN (Below.refl _ _) 1
    have hm2 := hm.below hb2
    rw [hp1, hbe]
    refine (gFail4 hm2.grp k a hk hh hep).mono ?_
    rintro e0 w' ⟨he, h1, h2, h3⟩
    obtain ⟨m1, m2⟩ := hm2.turn (y := y) 1 (by decide) h2 (by rw [hy]; exact h1.mono fun _ h => .inl h) (by rw [hy]; exact part_G _)
    rw [← hbe]
    exact ⟨he, _, m1, (Goes.below (hb.trans (hb2.mono hb.size))).trans m2, (hBx.below hb2 hBx.lt).only h2 (by show ¬ T w.heap.size = 1; rw [hT0]; decide)⟩
  have hyg : y.gm = gm ∧ y.p1 = p1 ∧ y.G.ep = b + 1 ∧ z.gm = gm ∧ z.p1 = p1 ∧ z.G.ep = b + 1 := by rw [hz, hy, hgm, hp1, hbe]; exact ⟨rfl, rfl, rfl, rfl, rfl, rfl⟩
  rw [← hgm, ← hbe]
  have HZ := hid hz
  clear hm hBx hb h hy hgm hp1 hbe hk hh hep hz hzz
  go_enter Tryz.func97, Tryz.ntmps97
  go_upto_region 1 with (fail)
  rw [← hW]
  clear hW
  go_still_tail 8, (by kernel_rfl)
  change wpList _ _ _ _ _ (W.drewN 1)
  go_wp2_with fail
  refine (hcall.out _ rfl).mono ?_
  rintro e w' ⟨rfl, T', hx, hy, hz⟩
  have HX := hid hx
  have HY := hid hy
  have q3 : w'.cell? ⟨w.heap.size, 3, none⟩ = some (.int .i64 a) := (hz.cell 3).trans rfl
  have q0 : w'.cell? ⟨gm, 0, none⟩ = some (.pointer (some ⟨p1, 0, none⟩)) := by rw [← hyg.1, ← hyg.2.1]; exact hx.mcell 0 _ rfl (by decide) (by decide)
  have q6 : w'.cell? ⟨gm, 6, none⟩ = some (.int .i64 y.gone) := by rw [← hyg.1]; exact hx.mcell 6 _ rfl (by decide) (by decide)
  have f6 : w'.frozen? ⟨gm, 6, none⟩ = false := by
    obtain ⟨_, b3', b5', hg⟩ := hx.mgr
    rw [← hyg.1]
    exact hg.frozen 6
  have hgl' : gm < w'.heap.size := by rw [← hyg.1]; exact hx.mlt
  generalize y.gone = gn at q6
  clear hx hy hz g0 b3 b4
  go_upto_region 4 with (fail)
  obtain ⟨w2, hw2⟩ : ∃ w2, w2 = w'.setCell ⟨gm, 6, none⟩ (.int .i64 a) := ⟨_, rfl⟩
  rw [← hw2]
  obtain ⟨n1, n2⟩ := HX.out.gone_ a
  rw [← HZ.out, hyg.1, ← hw2] at n1
  rw [hyg.1, ← hw2] at n2
  have q0' : w2.cell? ⟨gm, 0, none⟩ = some (.pointer (some ⟨p1, 0, none⟩)) := by rw [← hyg.2.2.2.1, ← hyg.2.2.2.2.1]; exact n1.mcell 0 _ rfl (by decide) (by decide)
  have HN := hid (And.intro n1 n2)
  have hgl2 : gm < w2.heap.size := by rw [← hyg.2.2.2.1]; exact n1.mlt
  have hep := gEpoch4 n1.grp
  rw [hyg.2.2.2.2.1, hyg.2.2.2.2.2] at hep
  have HE := hid hep
  clear hw2 n1 n2 q0 q3 q6 f6 hep
  go_wp2_with fail
  refine HE.out.mono ?_
  rintro e w3 ⟨rfl, rfl⟩
  go_wp2_with fail
  go_ret2
  have hbb := (Below.refl w2.heap.size w2).alloc (Nat.le_refl _) (.cells #[.int .i64 (b + 1)] 3)
  exact ⟨_, 1, 1, T', rfl, rfl, holds_made w2 [b + 1] 3 _ rfl, HN.out.1.below hbb, (HY.out.trans HN.out.2).trans (Goes.below hbb)⟩
end
end Go.Proofs.YtopbojifllnckaaGreatDoor
namespace Go.Proofs.YtopbojifllnckaaGreatDoor
open Go.RowKit
attribute [local irreducible] wpQuiet
section
variable {B : Nat} {T : Nat → Nat} {w w' : World} {x : X}
set_option maxRecDepth 100000 in
set_option maxHeartbeats 1600000 in
theorem mbegin (h : Arr B T w x) (hep : x.G.ep = 1) (hL : x.L.length < 200) (hg : grpB x.G.xs = true) (a : Nat) (ha : a ≤ 65536) (sq kd b c d e : Int) :
    Calls Tryz.prog 93 #[.pointer (some ⟨x.gm, 0, none⟩), .agg #[.int .i64 3, .int .i64 sq, .int .i64 kd, .int .i64 a, .int .i64 b, .int .i64 c, .int .i64 d, .int .i64 e]] w
      (CEnd B T w { x with L := x.L ++ [⟨1, a, x.G.xs⟩] } [x.L.length, 1]) := by
  obtain ⟨y, hy⟩ : ∃ y : X, y = { x with L := x.L ++ [⟨1, a, x.G.xs⟩] } := ⟨_, rfl⟩
  rw [← hy]
  obtain ⟨gm, hgm⟩ : ∃ gm, gm = x.gm := ⟨_, rfl⟩
  obtain ⟨p1, hp1⟩ : ∃ p1, p1 = x.p1 := ⟨_, rfl⟩
  obtain ⟨p2, hp2⟩ : ∃ p2, p2 = x.p2 := ⟨_, rfl⟩
  obtain ⟨n, hn⟩ : ∃ n, n = x.L.length := ⟨_, rfl⟩
  obtain ⟨W, hW⟩ : ∃ W, W = w.alloc (.cells #[.int .i64 3, .int .i64 sq, .int .i64 kd, .int .i64 a, .int .i64 b, .int .i64 c, .int .i64 d, .int .i64 e] 30) := ⟨_, rfl⟩
  have hb : Below w.heap.size w W := by rw [hW]; exact (Below.refl _ _).alloc (Nat.le_refl _) _
  have hBx : Blk W w.heap.size 30 #[.int .i64 3, .int .i64 sq, .int .i64 kd, .int .i64 a, .int .i64 b, .int .i64 c, .int .i64 d, .int .i64 e] := by rw [hW]; exact Blk.new w 30 _
  have hm := h.below hb
  have hT0 : T w.heap.size = 0 := h.fits.zero (Nat.le_refl _)
  have b0 : W.cell? ⟨w.heap.size, 0, none⟩ = some (.int .i64 3) := (hBx.cell 0).trans rfl
  have b3 : W.cell? ⟨w.heap.size, 3, none⟩ = some (.int .i64 a) := (hBx.cell 3).trans rfl
  have hgl : gm < W.heap.size := by rw [hgm]; exact hm.mlt
  have hbl := hBx.lt
  have g0 : W.cell? ⟨gm, 0, none⟩ = some (.pointer (some ⟨p1, 0, none⟩)) := by rw [hgm, hp1]; exact hm.mcell 0 _ rfl (by decide) (by decide)
  have g1 : W.cell? ⟨gm, 1, none⟩ = some (.pointer (some ⟨p2, 0, none⟩)) := by rw [hgm, hp2]; exact hm.mcell 1 _ rfl (by decide) (by decide)
  have hcE : Hid (∀ W2, Below W.heap.size W W2 → Calls Tryz.prog 43 #[.pointer (some ⟨p1, 0, none⟩)] W2 fun e0 w' => e0 = .returned (.int .i64 1) ∧ W2 = w') := by
    show ∀ W2, _
    intro W2 hb2
    have := gEpoch4 (hm.below hb2).grp
    rw [hep] at this
    rw [hp1]
    exact this
  have hcS : Hid (∀ W2, Below W.heap.size W W2 → Calls Tryz.prog 157 #[.pointer (some ⟨p1, 0, none⟩)] W2 fun e0 w' => ∃ q : Nat, e0 = .returned (.slice (some ⟨q, 0, none⟩) 4 4) ∧ gm < w'.heap.size ∧ w.heap.size < w'.heap.size ∧ (w'.cell? ⟨gm, 0, none⟩ = some (.pointer (some ⟨p1, 0, none⟩)) ∧ w'.cell? ⟨gm, 1, none⟩ = some (.pointer (some ⟨p2, 0, none⟩)) ∧ w'.cell? ⟨w.heap.size, 0, none⟩ = some (.int .i64 3) ∧ w'.cell? ⟨w.heap.size, 3, none⟩ = some (.int .i64 a)) ∧ Hid (Below W.heap.size W w' ∧ Holds w' w'.heap.size (some ⟨q, 0, none⟩) (nums x.G.xs))) := by
    show ∀ W2, _
    intro W2 hb2
    have hm2 := hm.below hb2
    rw [hp1]
    refine (gServers4 hm2.grp).mono ?_
    rintro e0 w' ⟨rfl, hv, hbb⟩
    have hB3 := hBx.below (hb2.trans (hbb.mono hb2.size)) hBx.lt
    have m1 := hm2.below hbb
    rw [hgm, hp2]
    exact ⟨_, rfl, m1.mlt, hB3.lt, ⟨m1.mcell 0 _ rfl (by decide) (by decide), m1.mcell 1 _ rfl (by decide) (by decide), (hB3.cell 0).trans rfl, (hB3.cell 3).trans rfl⟩, hb2.trans (hbb.mono hb2.size), (Holds.of_blk hv 0 4 hv.lt)⟩
  have hcB : Hid (∀ W2 (q : Nat), Below W.heap.size W W2 → Holds W2 W2.heap.size (some ⟨q, 0, none⟩) (nums x.G.xs) → Calls Tryz.prog 156 #[.pointer (some ⟨p2, 0, none⟩), .int .i64 3, .int .i64 1, .int .i64 a, .slice (some ⟨q, 0, none⟩) 4 4] W2 fun e0 w' => e0 = .returned (.tuple #[.int .i64 n, .int .i64 0]) ∧ (w'.cell? ⟨gm, 0, none⟩ = some (.pointer (some ⟨p1, 0, none⟩)) ∧ w'.cell? ⟨gm, 1, none⟩ = some (.pointer (some ⟨p2, 0, none⟩)) ∧ w'.cell? ⟨w.heap.size, 0, none⟩ = some (.int .i64 3) ∧ w'.cell? ⟨w.heap.size, 3, none⟩ = some (.int .i64 a)) ∧ Hid (∃ T', Arr B T' w' y ∧ Goes T w T' w')) := by
    show ∀ W2, _
    intro W2 q hb2 hh
    have hm2 := hm.below hb2
    have hB2 := hBx.below hb2 hBx.lt
    rw [hp2, hn]
    refine (vBegin hm2.smp (hm2.inn (by decide)) a hh (Nat.le_refl _) rfl hL hg ha).mono ?_
    rintro e0 w' ⟨rfl, hs, ho⟩
    obtain ⟨m1, m2⟩ := hm2.turn (y := y) 2 (by decide) ho (by rw [hy]; exact hs) (by rw [hy]; exact part_L _)
    have hB3 := hB2.only ho (by show ¬ T w.heap.size = 2; rw [hT0]; decide)
    have z0 : w'.cell? ⟨gm, 0, none⟩ = some (.pointer (some ⟨p1, 0, none⟩)) := by have := m1.mcell 0 _ rfl (by decide) (by decide); rw [hy] at this; rw [hgm, hp1]; exact this
    have z1 : w'.cell? ⟨gm, 1, none⟩ = some (.pointer (some ⟨x.p2, 0, none⟩)) := by have := m1.mcell 1 _ rfl (by decide) (by decide); rw [hy] at this; rw [hgm]; exact this
    exact ⟨rfl, ⟨z0, z1, (hB3.cell 0).trans rfl, (hB3.cell 3).trans rfl⟩, _, m1, (Goes.below (hb.trans (hb2.mono hb.size))).trans m2⟩
  have hyg : y.gm = gm ∧ y.p1 = p1 ∧ y.G.ep = 1 := by rw [hy, hgm, hp1]; exact ⟨rfl, rfl, hep⟩
  have hW0 : Hid (Below W.heap.size W W.drew) := (Below.refl _ _).drew
  rw [← hgm, ← hn]
  clear hm hBx hb h hy hgm hp1 hp2 hep hL hg ha hn
  go_enter Tryz.func93, Tryz.ntmps93
  go_upto_region 1 with (fail)
  rw [← hW]
  clear hW
  go_cut [6, 7] (fun s6 s7 wx => s6 = .int .i64 n ∧ s7 = .int .i64 0 ∧ Hid (∃ T', Arr B T' wx y ∧ Goes T w T' wx))
  case first =>
    go_region_held3 (fun w' => w'.cell? ⟨gm, 0, none⟩ = some (.pointer (some ⟨p1, 0, none⟩)) ∧ w'.cell? ⟨gm, 1, none⟩ = some (.pointer (some ⟨p2, 0, none⟩)) ∧ w'.cell? ⟨w.heap.size, 0, none⟩ = some (.int .i64 3) ∧ w'.cell? ⟨w.heap.size, 3, none⟩ = some (.int .i64 a)) (first | (with_reducible exact hS) | (with_reducible exact ⟨g0, g1, b0, b3⟩) | go_keep) ((first
      | (go_at_call 43; first
        | (refine (hcE.out _ hW0.out).mono ?_; rintro e0 w' ⟨rfl, rfl⟩)
        | (refine (hcE.out _ hx.out.1).mono ?_; rintro e0 w' ⟨rfl, rfl⟩))
      | (go_at_call 157; refine (hcS.out _ hW0.out).mono ?_; rintro e0 w' ⟨q, rfl, hgl', hbl', hS, hx⟩)
      | (go_at_call 156; refine (hcB.out _ _ hx.out.1 hx.out.2).mono ?_; rintro e0 w' ⟨rfl, hS, hy⟩)))
    all_goals
      go_wp2_with fail
      go_meet
      exact ⟨rfl, rfl, hy⟩
  case rest =>
    obtain ⟨rfl, rfl, HX⟩ := hcut
    obtain ⟨T', m1, m2⟩ := HX.out
    have HY := hid (And.intro m1 m2)
    have q0 : wc.cell? ⟨gm, 0, none⟩ = some (.pointer (some ⟨p1, 0, none⟩)) := by rw [← hyg.1, ← hyg.2.1]; exact m1.mcell 0 _ rfl (by decide) (by decide)
    have hgl' : gm < wc.heap.size := by rw [← hyg.1]; exact m1.mlt
    have hep := gEpoch4 m1.grp
    rw [hyg.2.1, hyg.2.2] at hep
    have HE := hid hep
    clear m1 m2 hep
    go_wp2_with fail
    refine HE.out.mono ?_
    rintro e0 w2 ⟨rfl, rfl⟩
    go_wp2_with fail
    go_ret2
    have hbb := (Below.refl wc.heap.size wc).alloc (Nat.le_refl _) (.cells #[.int .i64 n, .int .i64 1] 3)
    exact ⟨_, 2, 2, T', rfl, rfl, holds_made _ [n, 1] 3 _ rfl, HY.out.1.below hbb, HY.out.2.trans (Goes.below hbb)⟩
end
end Go.Proofs.YtopbojifllnckaaGreatDoor
