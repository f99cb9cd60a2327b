/- TopStripes: where the law stands, step by step. A slice of texts that comes in, as a list. TopStripes: texts that are written are read while a disk is lost, and behind it: the walk. -/
import Derived.Lib.SmallJoins
import Derived.Deep.Strs
import Derived.Test.YtopbojifllnckaaGreatDoorG44
import Derived.Test.YtopbojifllnckaaGreatDoorG24
import Derived.Test.YtopbojifllnckaaGreatDoorHRun
namespace Go.Proofs.YtopbojifllnckaaGreatDoor
open Go.RowKit
attribute [local irreducible] wpQuiet
section
variable {P : Program} (w : World) {a : Act} {Q : Exit → Act → World → Prop}
/-- One element more: nothing but the row's own block is turned. -/
theorem wpList_app1o {ops : Array Oper} {rest : List Oper} {o : Oper} (hgd : o.guard = none) (s x : Operand) (t e : TypeId) (z : Value) (bytes : Nat) (ho : o.op = .call { callee := .builtin .append, args := #[s, x], argTypes := #[t, t] })
    (ht : P.underlying t = some (.slice e)) (hinfo : (P.info? e).map (fun i => (i.zero, i.size, i.bytes)) = some (some z, 1, bytes)) (hz : z.cells.size = 1) (hb0 : 0 < bytes)
    (base : Nat) (v : Value) (n : Nat) (xs : List Value) (hs : a.eval s = v) (hown : w.ownsRow base e 1 v n xs) (u : Value) (hx : a.eval x = .slice (some ⟨w.heap.size, 0, none⟩) 1 1)
    (h1 : u.oneCell' = true) (hlen : (n + 1) * bytes ≤ 140737488355328) (hbase : base ≤ w.heap.size)
    (h : ∀ v' w', w'.ownsRow base e 1 v' (n + 1) (xs ++ [u]) → Only (fun k => v.ownBlock = some k) w w' → (∀ k, v'.ownBlock = some k → v.ownBlock = some k ∨ w.heap.size ≤ k) → wpList P ops Q rest (a.put o.dst v') w') : wpList P ops Q (o :: rest) a (w.alloc (.cells #[u] e)) := by
  refine wpList_appS (w.alloc (.cells #[u] e)) hgd s x t e z 1 bytes ho ht hinfo hz (by omega) hb0 base v n xs hs (hown.alloc _) (w.heap.size + 1) (some ⟨w.heap.size, 0, none⟩) 1 1 [u] hx rfl ?_ (by simpa using h1) hlen (by simp; omega) fun v' w' h2 h3 h4 => h v' w' h2 ?_ ?_
  · have := Holds.of_blk (B := w.heap.size + 1) (Blk.new w e #[u]) 0 1 (by omega)
    simpa using this
  · exact ⟨h3.os, h3.tape, h3.output, Nat.le_trans (by simp) h3.size, fun k hk hs => (h3.block k (by simp; omega) (fun e => hs e.symm)).trans (Below.heap_alloc w _ k hk)⟩
  · intro k hk
    rcases h4 with h4 | h4
    · exact .inl (by rw [← h4]; exact hk)
    · rw [h4] at hk
      injection hk with hk
      right
      simp at hk
      omega
end
theorem own_same {w w' : World} {base e size n : Nat} {v : Value} {xs : List Value} (h : w.ownsRow base e size v n xs) (hk : ∀ k, v.ownBlock = some k → k < w.heap.size → w'.heap[k]? = w.heap[k]?) : w'.ownsRow base e size v n xs := by
  refine ⟨h.1, ?_⟩
  rcases h.2 with hn | ⟨g, cap, cur, rfl, hb, hg, r⟩
  · exact .inl hn
  · exact .inr ⟨g, cap, cur, rfl, hb, (hk g rfl (Array.getElem?_eq_some_iff.1 hg).1).trans hg, r⟩
/-- Rows of two kinds lie in two blocks. -/
theorem own_two {w : World} {base base' e e' n n' : Nat} {v v' : Value} {xs xs' : List Value} (h : w.ownsRow base e 1 v n xs) (h' : w.ownsRow base' e' 1 v' n' xs') (he : e ≠ e') : ∀ k, v.ownBlock = some k → v'.ownBlock = some k → False := by
  intro k hk hk'
  rcases h.2 with ⟨rfl, _⟩ | ⟨g, cap, cur, rfl, _, hg, _⟩
  · cases hk
  · rcases h'.2 with ⟨rfl, _⟩ | ⟨g', cap', cur', rfl, _, hg', _⟩
    · cases hk'
    · cases hk
      cases hk'
      rw [hg] at hg'
      injection hg' with hg'
      injection hg' with _ h2
      exact he h2
/-- A row of the call's own that is no part of the array. -/
def OwnT (T : Nat → Nat) (w : World) (base e : Nat) (v : Value) (vs : List Value) : Prop := w.ownsRow base e 1 v vs.length vs ∧ ∀ k, v.ownBlock = some k → T k = 0
section
variable {B : Nat} {T T' : Nat → Nat} {w w' : World} {x y : X} {base e : Nat} {v : Value} {vs : List Value}
theorem OwnT.goes (h : OwnT T w base e v vs) (g : Goes T w T' w') : OwnT T' w' base e v vs :=
  ⟨own_same h.1 fun k hk hl => g.only.block k hl (by simp [h.2 k hk]), fun k hk => g.free k (h.1.lt k hk).2 (h.2 k hk)⟩
theorem Arr.off (h : Arr B T w x) {S : Nat → Prop} (ho : Only S w w') (hS : ∀ k, S k → T k = 0) : Arr B T w' x :=
  ⟨⟨Nat.le_trans h.fits.1 ho.size, fun k hk => ⟨(h.fits.2 k hk).1, Nat.lt_of_lt_of_le (h.fits.2 k hk).2 ho.size⟩⟩, fun i hi => part_keep (h.all i hi) fun k hk hl => ho.block k hl fun c => hi (by rw [← hk, hS k c])⟩
theorem Arr.goesB (h : Arr B T w x) (g : Goes T w T' w') : Below B w w' := g.only.below h.fits.1 fun k hk c => by have := (h.fits.2 k c).1; omega
end
/-- While the texts are written: S are in the array, R and I in the law's own rows. -/
def LI (w0 : World) (a sg k : Nat) (S R : List ByteArray) (I : List Int) (v9 v10 : Value) (wr : World) : Prop :=
  ∃ T x, Arr w0.heap.size T wr x ∧ x.a = a ∧ x.sg = sg ∧ WI x k S ∧ Below w0.heap.size w0 wr ∧ OwnT T wr w0.heap.size 9 v9 (strs R) ∧ OwnT T wr w0.heap.size 3 v10 (nums I)
/-- While the disk is lost: t of the stripes were given back. -/
def LR (w0 : World) (a r k : Nat) (S : List ByteArray) (A9 A10 : Option Addr) (t : Nat) (wr : World) : Prop :=
  ∃ T x, Arr w0.heap.size T wr x ∧ x.a = a ∧ Reb T wr r a 4 ∧ Rb x (xsK k) (ixn k) S t ∧ OkQ x ∧ x.G.fil = true ∧ (0 ≤ x.G.ep ∧ x.G.ep < 1000) ∧ Below w0.heap.size w0 wr ∧ RowV (plusR T r) wr A9 (strs S) ∧ RowV (plusR T r) wr A10 (nums (F.upto S.length))
/-- Behind the rebuild. -/
def LS (w0 : World) (a k : Nat) (S : List ByteArray) (A10 : Option Addr) (wr : World) : Prop :=
  ∃ T x, Arr w0.heap.size T wr x ∧ x.a = a ∧ Rb x (xsK k) (ixn k) S S.length ∧ Below w0.heap.size w0 wr ∧ RowV T wr A10 (nums (F.upto S.length))
section
variable {w0 wr w' : World} {a sg r k : Nat} {S R : List ByteArray} {I : List Int} {v9 v10 : Value} {A9 A10 : Option Addr} {t : Nat}
theorem LI.below (h : LI w0 a sg k S R I v9 v10 wr) (hb : Below wr.heap.size wr w') : LI w0 a sg k S R I v9 v10 w' := by
  obtain ⟨T, x, h1, h2, h3, h4, h5, h6, h7⟩ := h
  exact ⟨T, x, h1.below hb, h2, h3, h4, h5.trans (hb.mono h5.size), h6.goes (Goes.below hb), h7.goes (Goes.below hb)⟩
theorem LI.size (h : LI w0 a sg k S R I v9 v10 wr) : w0.heap.size ≤ wr.heap.size := by
  obtain ⟨T, x, h1, h2, h3, h4, h5, h6, h7⟩ := h
  exact h5.size
theorem LI.low (h : LI w0 a sg k S R I v9 v10 wr) : Below w0.heap.size w0 wr := by
  obtain ⟨T, x, h1, h2, h3, h4, h5, h6, h7⟩ := h
  exact h5
theorem LI.own9 (h : LI w0 a sg k S R I v9 v10 wr) : wr.ownsRow w0.heap.size 9 1 v9 R.length (strs R) := by
  obtain ⟨T, x, h1, h2, h3, h4, h5, h6, h7⟩ := h
  have := h6.1
  rwa [show (strs R).length = R.length by simp [strs]] at this
theorem LI.own10 (h : LI w0 a sg k S R I v9 v10 wr) : wr.ownsRow w0.heap.size 3 1 v10 I.length (nums I) := by
  obtain ⟨T, x, h1, h2, h3, h4, h5, h6, h7⟩ := h
  have := h7.1
  rwa [show (nums I).length = I.length by simp [nums]] at this
theorem LI.srv (h : LI w0 a sg k S R I v9 v10 wr) : Calls Tryz.prog 13 #[.pointer (some ⟨a, 0, none⟩)] wr fun e w' => e = .returned (.pointer (some ⟨sg, 0, none⟩)) ∧ wr = w' := by
  obtain ⟨T, x, h1, rfl, rfl, _⟩ := h
  exact aSrv h1
theorem LI.down (h : LI w0 a sg k S R I v9 v10 wr) (hk : k < 4) (b : Bool) : Calls Tryz.prog 14 #[.pointer (some ⟨sg, 0, none⟩), .int .i64 k, .bool b] wr fun e w' => e = .returned (.bool true) ∧ LI w0 a sg k S R I v9 v10 w' := by
  obtain ⟨T, x, h1, rfl, rfl, h4, h5, h6, h7⟩ := h
  refine (Down_ok h1.srv (i := k) (by omega) (h4.ls k) b).mono ?_
  rintro e w' ⟨rfl, d1, d2, d3⟩
  obtain ⟨n1, n2⟩ := h1.stay (y := { x with dn := upd x.dn k b }) 9 (by decide) d2 d3 d1 (part_dn _)
  exact ⟨rfl, T, _, n1, rfl, rfl, h4.down b, h5.trans (h1.goesB n2), h6.goes n2, h7.goes n2⟩
/-- Refused, or written. -/
theorem LI.write (h : LI w0 a sg k S R I v9 v10 wr) (hk : k < 4) (h5 : S.length ≤ 5) (s : ByteArray) : Calls Tryz.prog 15 #[.pointer (some ⟨a, 0, none⟩), .int .i64 3, .string s, .int .i64 (-1)] wr fun e w' =>
    (e = .returned (.tuple #[.int .i64 0, .int .i64 2]) ∧ LI w0 a sg k S R I v9 v10 w') ∨ (e = .returned (.tuple #[.int .i64 S.length, .int .i64 0]) ∧ LI w0 a sg k (S ++ [s]) R I v9 v10 w') := by
  have H := h
  obtain ⟨T, x, h1, rfl, rfl, h4, hb, h6, h7⟩ := h
  by_cases hs : 1 ≤ s.size ∧ s.size ≤ 1536
  · have hq := (h4.q (3 : Nat)).2
    have hN := h4.N
    refine (aWrite_ok h1 h4.okQ s hs.1 hs.2 (h4.okW hk s) (by omega) (by omega)).mono ?_
    rintro e w' ⟨rfl, T', n1, n2⟩
    rw [h4.len]
    exact .inr ⟨rfl, T', _, n1, rfl, rfl, h4.write h5 hs, hb.trans (h1.goesB n2), h6.goes n2, h7.goes n2⟩
  · refine (aWrite_no h1 s (by omega)).mono ?_
    rintro e w' ⟨rfl, n1⟩
    exact .inl ⟨rfl, H.below n1⟩
theorem LI.app9 (h : LI w0 a sg k S R I v9 v10 wr) {s : ByteArray} {v' : Value} (h1 : w'.ownsRow w0.heap.size 9 1 v' (R.length + 1) (strs R ++ [.string s])) (h2 : Only (fun k => v9.ownBlock = some k) wr w') (h3 : ∀ k, v'.ownBlock = some k → v9.ownBlock = some k ∨ wr.heap.size ≤ k) : LI w0 a sg k S (R ++ [s]) I v' v10 w' := by
  obtain ⟨T, x, n1, n2, n3, n4, n5, n6, n7⟩ := h
  refine ⟨T, x, n1.off h2 n6.2, n2, n3, n4, n5.trans (h2.below n1.fits.1 fun k hk c => by have := (n6.1.lt k c).1; omega), ⟨?_, fun k hk => ?_⟩, ⟨own_same n7.1 fun k hk hl => h2.block k hl fun c => own_two n6.1 n7.1 (by decide) k c hk, n7.2⟩⟩
  · rw [show strs (R ++ [s]) = strs R ++ [.string s] by simp [strs], show (strs R ++ [Value.string s]).length = R.length + 1 by simp [strs]]
    exact h1
  · rcases h3 k hk with c | c
    · exact n6.2 k c
    · exact n1.fits.zero c
theorem LI.app10 (h : LI w0 a sg k S R I v9 v10 wr) {s : Int} {v' : Value} (h1 : w'.ownsRow w0.heap.size 3 1 v' (I.length + 1) (nums I ++ [.int .i64 s])) (h2 : Only (fun k => v10.ownBlock = some k) wr w') (h3 : ∀ k, v'.ownBlock = some k → v10.ownBlock = some k ∨ wr.heap.size ≤ k) : LI w0 a sg k S R (I ++ [s]) v9 v' w' := by
  obtain ⟨T, x, n1, n2, n3, n4, n5, n6, n7⟩ := h
  refine ⟨T, x, n1.off h2 n7.2, n2, n3, n4, n5.trans (h2.below n1.fits.1 fun k hk c => by have := (n7.1.lt k c).1; omega), ⟨own_same n6.1 fun k hk hl => h2.block k hl fun c => own_two n6.1 n7.1 (by decide) k hk c, n6.2⟩, ⟨?_, fun k hk => ?_⟩⟩
  · rw [show nums (I ++ [s]) = nums I ++ [.int .i64 s] by simp [nums], show (nums I ++ [Value.int .i64 s]).length = I.length + 1 by simp [nums]]
    exact h1
  · rcases h3 k hk with c | c
    · exact n7.2 k c
    · exact n1.fits.zero c
/-- Server k is up again; a rebuild is made. -/
def LF (w0 : World) (a r k : Nat) (S : List ByteArray) (A9 A10 : Option Addr) (wr : World) : Prop :=
  ∃ T x, Arr w0.heap.size T wr x ∧ x.a = a ∧ (Reb T wr r a (-1) ∧ w0.heap.size ≤ r) ∧ WI x k S ∧ (∀ n, x.dn n = false) ∧ Below w0.heap.size w0 wr ∧ RowV (plusR T r) wr A9 (strs S) ∧ RowV (plusR T r) wr A10 (nums (F.upto S.length))
/-- Server k is up again. -/
def LU (w0 : World) (a k : Nat) (S : List ByteArray) (v9 v10 : Value) (wr : World) : Prop :=
  ∃ T x, Arr w0.heap.size T wr x ∧ x.a = a ∧ WI x k S ∧ (∀ n, x.dn n = false) ∧ Below w0.heap.size w0 wr ∧ OwnT T wr w0.heap.size 9 v9 (strs S) ∧ OwnT T wr w0.heap.size 3 v10 (nums (F.upto S.length))
theorem LI.up (h : LI w0 a sg k S S (F.upto S.length) v9 v10 wr) (hk : k < 4) : Calls Tryz.prog 14 #[.pointer (some ⟨sg, 0, none⟩), .int .i64 k, .bool false] wr fun e w' => e = .returned (.bool true) ∧ LU w0 a k S v9 v10 w' := by
  obtain ⟨T, x, h1, rfl, rfl, h4, h5, h6, h7⟩ := h
  refine (Down_ok h1.srv (i := k) (by omega) (h4.ls k) false).mono ?_
  rintro e w' ⟨rfl, d1, d2, d3⟩
  obtain ⟨n1, n2⟩ := h1.stay (y := { x with dn := upd x.dn k false }) 9 (by decide) d2 d3 d1 (part_dn _)
  refine ⟨rfl, T, _, n1, rfl, h4.down false, fun n => ?_, h5.trans (h1.goesB n2), h6.goes n2, h7.goes n2⟩
  show upd x.dn k false n = false
  by_cases e : n = k
  · rw [e, upd_same]
  · rw [upd_other _ _ e]
    exact h4.dn n e
theorem OwnT.row {T : Nat → Nat} {w w' : World} {base e n c : Nat} {A : Option Addr} {vs : List Value} (h : OwnT T w base e (.slice A n c) vs) (hb : Below w.heap.size w w') : RowV (plusR T w.heap.size) w' A vs := by
  intro hn
  have hln : n = vs.length := by
    obtain ⟨A', c', he⟩ := own_form h.1
    injection he
  have h1 := h.1
  rw [← hln] at h1
  obtain ⟨ad, rfl, hlt, hc⟩ := (own_holdsS h1).1 hn
  have hz := h.2 ad.block rfl
  refine ⟨ad, rfl, Nat.lt_of_lt_of_le hlt hb.size, ?_, fun j u hu => (World.cell?_of_block (by rw [block_add]; exact hb.block _ hlt)).trans (hc j u hu)⟩
  unfold plusR
  rw [if_neg (by omega)]
  exact hz
theorem LU.new {n9 c9 n10 c10 : Nat} (h : LU w0 a k S (.slice A9 n9 c9) (.slice A10 n10 c10) wr) : Calls Tryz.prog 16 #[.pointer (some ⟨a, 0, none⟩)] wr fun e w' => e = .returned (.pointer (some ⟨wr.heap.size, 0, none⟩)) ∧ LF w0 a wr.heap.size k S A9 A10 w' := by
  obtain ⟨T, x, h1, rfl, h3, h4, h5, h6, h7⟩ := h
  refine (rNew x.a wr).mono ?_
  rintro e w' ⟨rfl, n1, n2⟩
  exact ⟨rfl, T, x, h1.below n2, rfl, ⟨⟨n1, h1.fits.zero (Nat.le_refl _)⟩, h5.size⟩, h3, h4, h5.trans (n2.mono h5.size), h6.row n2, h7.row n2⟩
/-- What stands behind Fail. -/
def LG (w0 : World) (a r k : Nat) (S : List ByteArray) (A9 A10 : Option Addr) (wr : World) : Prop :=
  ∃ T x z, Arr w0.heap.size T wr x ∧ x.a = a ∧ (Reb T wr r a (-1) ∧ w0.heap.size ≤ r) ∧ WI z k S ∧ (∀ n, z.dn n = false) ∧ x.L = z.L ∧ x.C = z.C ∧ x.dn = z.dn ∧ x.ls = upd z.ls k true ∧ OkQ x ∧ x.q (15 : Nat) ≤ 100 ∧ x.N ≤ 100 ∧ x.G = ⟨0, 1, 2, 3, 1, 2, k, false, k⟩ ∧ x.gone = k ∧ Below w0.heap.size w0 wr ∧ RowV (plusR T r) wr A9 (strs S) ∧ RowV (plusR T r) wr A10 (nums (F.upto S.length))
theorem nextQ_here (q : Int → Int) (c : Nat) : nextQ q c (c : Int) = q c + 1 := if_pos rfl
theorem LF.fail (h : LF w0 a r k S A9 A10 wr) (hk : k < 4) : Calls Tryz.prog 17 #[.pointer (some ⟨r, 0, none⟩), .int .i64 k] wr fun e w' => e = .returned (.int .i64 0) ∧ LG w0 a r k S A9 A10 w' := by
  obtain ⟨T, x, h1, rfl, h3, h4, h5, h6, h7, h8⟩ := h
  have hG := h4.G
  have hq := h4.okQ
  have hq15 := h4.q (15 : Nat)
  have hN := h4.N
  have h6s := h4.six
  refine (rFail h1 h3.1 hq k (by rw [h4.xs]; rcases four_cases hk with rfl | rfl | rfl | rfl <;> decide) hk (by rw [hG]) (by rw [hG])).mono ?_
  rintro e w' ⟨rfl, T', n1, n2⟩
  refine ⟨rfl, T', _, x, n1, rfl, ⟨h3.1.goes n2, h3.2⟩, h4, h5, rfl, rfl, rfl, rfl, ?_, ?_, ?_, ?_, rfl, h6.trans (h1.goesB n2), h7.goes (n2.plus r), h8.goes (n2.plus r)⟩
  · exact hq.next 15 (by show x.N + 1 ≤ 1000; omega) rfl rfl (by omega)
  · show nextQ x.q (15 : Nat) (15 : Nat) ≤ 100
    rw [nextQ_here]
    omega
  · show x.N + 1 ≤ 100
    omega
  · show ({ x.G with ep := x.G.ep + 1, hole := k, fil := false, gone := k } : GS) = _
    rw [hG]
    rfl
theorem LG.start (h : LG w0 a r k S A9 A10 wr) (hk : k < 4) : Calls Tryz.prog 18 #[.pointer (some ⟨r, 0, none⟩)] wr fun e w' => e = .returned (.tuple #[.int .i64 4, .int .i64 0]) ∧ LR w0 a r k S A9 A10 0 w' := by
  obtain ⟨T, x, z, h1, rfl, h3, h4, h5, g1, g2, g3, g4, hq, hq15, hN, hG, hgo, h6, h7, h8⟩ := h
  have h6s := h4.six
  refine (rStart h1 h3.1 hq k hk (by rw [hG]) (by rw [hG]) (by rw [hG]) (by rw [hG]; show (0 : Int) ≤ 2 ∧ (2 : Int) < 1000; decide) (by rw [g1, h4.len]; omega) (by rw [g1, h4.L, hgo]; exact hall_K hk S)).mono ?_
  rintro e w' ⟨rfl, T', n1, n2, n3⟩
  refine ⟨rfl, T', _, n1, rfl, n2, h4.rb hk h5 (by show x.L.map (mvS k) = _; rw [g1]) g2 g3 g4, ?_, ?_, ?_, h6.trans ?_, h7.goes n3, h8.goes n3⟩
  · exact hq.next 15 (by show x.N + 1 ≤ 1000; omega) rfl rfl (by omega)
  · show (GS.put { x.G with m := 0, ep := x.G.ep + 1, fil := true } k 4).fil = true
    rcases four_cases hk with rfl | rfl | rfl | rfl <;> rfl
  · show 0 ≤ (GS.put { x.G with m := 0, ep := x.G.ep + 1, fil := true } k 4).ep ∧ (GS.put { x.G with m := 0, ep := x.G.ep + 1, fil := true } k 4).ep < 1000
    rw [hG]
    rcases four_cases hk with rfl | rfl | rfl | rfl <;> exact ⟨by decide, by decide⟩
  · refine n3.only.below h1.fits.1 fun b hb c => ?_
    unfold plusR at c
    split at c
    · have := h3.2; omega
    · have := (h1.fits.2 b c).1; omega
theorem LR.below (h : LR w0 a r k S A9 A10 t wr) (hb : Below wr.heap.size wr w') : LR w0 a r k S A9 A10 t w' := by
  obtain ⟨T, x, h1, h2, h3, h4, h5, h6, h7, h8, h9, h10⟩ := h
  exact ⟨T, x, h1.below hb, h2, h3.below hb, h4, h5, h6, h7, h8.trans (hb.mono h8.size), h9.goes (Goes.below hb), h10.goes (Goes.below hb)⟩
theorem LR.low (h : LR w0 a r k S A9 A10 t wr) : Below w0.heap.size w0 wr := by
  obtain ⟨T, x, h1, h2, h3, h4, h5, h6, h7, h8, h9, h10⟩ := h
  exact h8
theorem LR.ids (h : LR w0 a r k S A9 A10 t wr) {j : Nat} (hj : j < S.length) : ∃ ad, A10 = some ad ∧ wr.cell? (ad.add j) = some (.int .i64 j) := by
  obtain ⟨T, x, h1, h2, h3, h4, h5, h6, h7, h8, h9, h10⟩ := h
  obtain ⟨ad, e, _, _, hc⟩ := h10 (by simp [nums, F.upto]; omega)
  exact ⟨ad, e, hc j _ (by simp [nums, F.upto, hj])⟩
theorem LR.ins (h : LR w0 a r k S A9 A10 t wr) {j : Nat} {s : ByteArray} (hj : S[j]? = some s) : ∃ ad, A9 = some ad ∧ wr.cell? (ad.add j) = some (.string s) := by
  have hl := (List.getElem?_eq_some_iff.1 hj).1
  obtain ⟨T, x, h1, h2, h3, h4, h5, h6, h7, h8, h9, h10⟩ := h
  obtain ⟨ad, e, _, _, hc⟩ := h9 (by simp [strs]; omega)
  exact ⟨ad, e, hc j _ (by simp [strs, hj])⟩
theorem LR.read (h : LR w0 a r k S A9 A10 t wr) {j : Nat} {s : ByteArray} (hj : S[j]? = some s) : Calls Tryz.prog 19 #[.pointer (some ⟨a, 0, none⟩), .int .i64 j] wr fun e w' => e = .returned (.tuple #[.string s, .int .i64 0]) ∧ LR w0 a r k S A9 A10 t w' := by
  have H := h
  have hl := (List.getElem?_eq_some_iff.1 hj).1
  obtain ⟨T, x, h1, rfl, h3, h4, h5, h6, h7, h8, h9, h10⟩ := h
  have := h4.six
  refine (Read_good h1 (h4.at_ hj) rfl (h4.ok s) (by omega) (h4.good j s hj)).mono ?_
  rintro e w' ⟨rfl, n1⟩
  exact ⟨rfl, H.below n1⟩
theorem LR.step (h : LR w0 a r k S A9 A10 t wr) (n : Nat) : Calls Tryz.prog 20 #[.pointer (some ⟨r, 0, none⟩), .int .i64 n] wr fun e w' => ∃ c : Nat, e = .returned (.tuple #[.int .i64 c, .int .i64 0]) ∧ LR w0 a r k S A9 A10 (t + min n (S.length - t)) w' := by
  obtain ⟨T, x, h1, rfl, h3, h4, h5, h6, h7, h8, h9, h10⟩ := h
  refine (Step_ok h1 h3 h4 n _ rfl).mono ?_
  rintro e w' ⟨rfl, T', C', n1, n2, n3, n4⟩
  exact ⟨_, rfl, T', _, n1, rfl, n4, n3, ⟨h5.N, h5.fq, h5.q0, h5.qa⟩, h6, h7, h8.trans (h1.goesB n2), h9.goes (n2.plus r), h10.goes (n2.plus r)⟩
theorem RowV.drop {T : Nat → Nat} {w : World} {A : Option Addr} {vs : List Value} (h : RowV (plusR T r) w A vs) : RowV T w A vs := fun hn => by
  obtain ⟨ad, e, hl, hz, hc⟩ := h hn
  refine ⟨ad, e, hl, ?_, hc⟩
  unfold plusR at hz
  split at hz
  · omega
  · exact hz
theorem LR.finish (h : LR w0 a r k S A9 A10 S.length wr) : Calls Tryz.prog 21 #[.pointer (some ⟨r, 0, none⟩)] wr fun e w' => e = .returned (.int .i64 0) ∧ LS w0 a k S A10 w' := by
  obtain ⟨T, x, h1, rfl, h3, h4, h5, h6, h7, h8, h9, h10⟩ := h
  refine (Finish_ok h1 h3 h4 h5 h6 h7).mono ?_
  rintro e w' ⟨rfl, T', n1, n2⟩
  exact ⟨rfl, T', _, n1, rfl, h4.of rfl rfl rfl rfl, h8.trans (h1.goesB n2), (h10.goes (n2.plus r)).drop⟩
theorem LS.below (h : LS w0 a k S A10 wr) (hb : Below wr.heap.size wr w') : LS w0 a k S A10 w' := by
  obtain ⟨T, x, h1, h2, h3, h4, h5⟩ := h
  exact ⟨T, x, h1.below hb, h2, h3, h4.trans (hb.mono h4.size), h5.goes (Goes.below hb)⟩
theorem LS.low (h : LS w0 a k S A10 wr) : Below w0.heap.size w0 wr := by
  obtain ⟨T, x, h1, h2, h3, h4, h5⟩ := h
  exact h4
theorem LS.ids (h : LS w0 a k S A10 wr) {j : Nat} (hj : j < S.length) : ∃ ad, A10 = some ad ∧ wr.cell? (ad.add j) = some (.int .i64 j) := by
  obtain ⟨T, x, h1, h2, h3, h4, h5⟩ := h
  obtain ⟨ad, e, _, _, hc⟩ := h5 (by simp [nums, F.upto]; omega)
  exact ⟨ad, e, hc j _ (by simp [nums, F.upto, hj])⟩
theorem LS.stripes (h : LS w0 a k S A10 wr) : Calls Tryz.prog 22 #[.pointer (some ⟨a, 0, none⟩)] wr fun e w' => e = .returned (.slice none 0 0) ∧ LS w0 a k S A10 w' := by
  have H := h
  obtain ⟨T, x, h1, rfl, h3, h4, h5⟩ := h
  refine (Stripes_ok h1 h3 h3.ol).mono ?_
  rintro e w' ⟨rfl, n1⟩
  exact ⟨rfl, H.below n1⟩
theorem LS.check (h : LS w0 a k S A10 wr) {j : Nat} (hj : j < S.length) : Calls Tryz.prog 23 #[.pointer (some ⟨a, 0, none⟩), .int .i64 j] wr fun e w' => e = .returned (.int .i64 0) ∧ LS w0 a k S A10 w' := by
  have H := h
  obtain ⟨T, x, h1, rfl, h3, h4, h5⟩ := h
  have := h3.six
  have hs : S[j]? = some S[j] := List.getElem?_eq_getElem hj
  have hg := h3.good j _ hs
  rw [if_pos hj] at hg
  refine (Check_good h1 (h3.at_ hs) rfl (h3.ok _) (by omega) hg).mono ?_
  rintro e w' ⟨rfl, n1⟩
  exact ⟨rfl, H.below n1⟩
/-- The start. -/
theorem new_in (w : World) : Calls Tryz.prog 12 #[.int .i64 5, .int .i64 100, .int .i64 4, .int .i64 1] w fun e w' => ∃ a sg, e = .returned (.pointer (some ⟨a, 0, none⟩)) ∧ ∀ k, LI w a sg k [] [] [] (.slice none 0 0) (.slice none 0 0) w' := by
  refine (aNew_ok w).mono ?_
  rintro e w' ⟨T, x, rfl, h1, h2, h3⟩
  exact ⟨x.a, x.sg, rfl, fun k => ⟨T, x, h1, rfl, rfl, WI.new h2 k, h3, ⟨World.ownsRow_nil _ _ _ _, fun k hk => by cases hk⟩, ⟨World.ownsRow_nil _ _ _ _, fun k hk => by cases hk⟩⟩⟩
end
end Go.Proofs.YtopbojifllnckaaGreatDoor
namespace Go.Proofs.YtopbojifllnckaaGreatDoor
open Go.RowKit
section
variable {H : Type} {enc : TypeId × Value → H} {w : World}
set_option maxRecDepth 100000 in
theorem open_texts {sp : Nat → Bool} {A : Option Addr} {n c : Nat} {d : DataW H} {p : List MemPlace} (h : DataW.Trod enc Tryz.prog w 0 sp true 41 (.slice A n c) d p) :
    ∃ l : List ByteArray, l.length = n ∧ Holds w w.heap.size A (strs l) := by
  obtain ⟨fuel, hf⟩ := h
  rcases Go.Deep.open_strs Tryz.underlying41 Tryz.underlying9 (by kernel_rfl) hf with ⟨hcs, _⟩ | ⟨a, len, cap, m, Sx, hcs, _, hl, hm, hmm, _, hi⟩
  · simp only [Value.cells] at hcs
    have : A = none ∧ n = 0 ∧ c = 0 := by simpa using hcs
    obtain ⟨rfl, rfl, rfl⟩ := this
    exact ⟨[], rfl, fun hn => absurd hn (by simp [strs])⟩
  · have hA : A = some a ∧ n = len ∧ c = cap := by simpa [Value.cells] using hcs
    obtain ⟨rfl, rfl, rfl⟩ := hA
    have hnm : n ≤ m := by rw [hmm]; split <;> omega
    refine ⟨(List.range n).map Sx, by simp, fun hn => ⟨a, rfl, ?_, fun j u hu => ?_⟩⟩
    · have hn' : 0 < n := by simpa [strs] using hn
      have := World.block_lt_of_cell? w _ (hi 0 (by omega)).1
      rwa [block_add] at this
    · have hj : j < n := by
        have := (List.getElem?_eq_some_iff.1 hu).1
        simpa [strs] using this
      have hx : (strs ((List.range n).map Sx))[j]? = some (.string (Sx j)) := by simp [strs, hj]
      rw [hx] at hu
      cases hu
      exact (hi j (by omega)).1
end
end Go.Proofs.YtopbojifllnckaaGreatDoor
namespace Go.Proofs.YtopbojifllnckaaGreatDoor
open Go.RowKit
attribute [local irreducible] wpQuiet
theorem Txt.at_ {w w' : World} {A : Option Addr} {l : List ByteArray} (h : Holds w w.heap.size A (strs l)) (hb : Below w.heap.size w w') {i : Nat} (hi : i < l.length) : ∃ ad, A = some ad ∧ w'.cell? (ad.add i) = some (.string l[i]) := by
  obtain ⟨ad, e, hl, hc⟩ := (h.below hb) (by simp [strs]; omega)
  exact ⟨ad, e, hc i _ (by simp [strs, hi])⟩
theorem srv_num (lost : Int) : ∃ k : Nat, k < 4 ∧ wrap64 ((IntKind.u64.wrap lost).tmod 4) = (k : Int) := by
  have h1 : IntKind.u64.wrap lost = lost % 18446744073709551616 := by simp [IntKind.wrap, IntKind.bits, IntKind.signed]
  have h2 : 0 ≤ lost % 18446744073709551616 := Int.emod_nonneg _ (by decide)
  rw [h1, Int.tmod_eq_emod_of_nonneg h2]
  generalize lost % 18446744073709551616 = z
  refine ⟨(z % 4).toNat, by omega, ?_⟩
  unfold wrap64
  omega
theorem step_num (step : Int) : ∃ c : Nat, 1 ≤ c ∧ c ≤ 2 ∧ wrap64 (1 + bits BinOp.and IntKind.i64 step 1) = (c : Int) := by
  have h0 : bits BinOp.and IntKind.i64 step 1 = IntKind.i64.wrap ((BitVec.ofInt 64 step &&& BitVec.ofInt 64 1).toNat : Int) := rfl
  have h1 : (BitVec.ofInt 64 step &&& BitVec.ofInt 64 1).toNat ≤ 1 := by
    rw [BitVec.toNat_and]
    exact Nat.and_le_right
  rw [h0, IntKind.wrap_i64]
  generalize (BitVec.ofInt 64 step &&& BitVec.ofInt 64 1).toNat = z at h1
  refine ⟨1 + z, by omega, by omega, ?_⟩
  unfold wrap64
  omega
theorem lap {m i c t : Nat} (h : t = min m (i * c)) : t + min c (m - t) = min m ((i + 1) * c) := by
  rw [Nat.succ_mul]
  omega
set_option maxRecDepth 100000 in
set_option maxHeartbeats 6400000 in
theorem stripes_in (lost step : Int) {A : Option Addr} {len cap : Nat} {w : World} (hg : len ≤ 6) (h : ∃ l : List ByteArray, l.length = len ∧ Holds w w.heap.size A (strs l)) :
    Calls Tryz.prog 4 #[.slice A len cap, .int .i64 lost, .int .i64 step] w fun e w' => e = .returned (.bool true) ∧ Below w.heap.size w w' := by
  obtain ⟨l, hl, hH⟩ := h
  have HC := hid (And.intro hl hH)
  have h60 : decide ((6 : Int) < (len : Int)) = false := by simp; omega
  have hnew := hid (new_in w)
  clear hl hH
  go_enter Tryz.func4, Tryz.ntmps4
  go_wp2_with fail
  refine hnew.out.mono ?_
  rintro e0 w1 ⟨a, sg, rfl, hI⟩
  have HI0 := hid hI
  clear hI hnew
  go_upto_region 5 with (fail)
  obtain ⟨k, hk4, hk⟩ := srv_num lost
  have hI1 := hid (HI0.out k)
  clear HI0
  simp only [hk]
  clear hk
  go_wp2_with fail
  refine hI1.out.srv.mono ?_
  rintro e0 w0 ⟨rfl, rfl⟩
  go_wp2_with fail
  refine (hI1.out.down hk4 true).mono ?_
  rintro e0 w2 ⟨rfl, hI⟩
  have HI2 := hid hI
  clear hI hI1
  go_wp2_with fail
  go_loopw [9, 10, 11] (fun v9 v10 v11 wr => ∃ (i : Nat) (S : List ByteArray), i ≤ len ∧ S.length ≤ i ∧ v11 = .int .i64 i ∧ Hid (LI w a sg k S S (F.upto S.length) v9 v10 wr)) (fun _ _ v11 _ => len - (intOf v11).toNat)
  case atStart => exact ⟨0, [], by omega, by simp, rfl, HI2⟩
  case round =>
    clear HI2
    obtain ⟨i, S, hi, hS, rfl, hI⟩ := hrel
    by_cases hil : i < len
    · have i0 : (0 : Int) ≤ (i : Int) := by omega
      have i1 : (i : Int) < (len : Int) := by omega
      obtain ⟨ad, rfl, e1⟩ := Txt.at_ HC.out.2 hI.out.low (i := i) (by rw [HC.out.1]; exact hil)
      obtain ⟨s, hs⟩ : ∃ s, s = l[i]'(by rw [HC.out.1]; exact hil) := ⟨_, rfl⟩
      rw [← hs] at e1
      have HS := hid hs
      have hTx : Hid (∀ W2, Below w.heap.size w W2 → W2.cell? (ad.add i) = some (.string s)) := by
        show ∀ W2, _
        intro W2 hb
        obtain ⟨ad', he, hc⟩ := Txt.at_ HC.out.2 hb (i := i) (by rw [HC.out.1]; exact hil)
        cases he
        rw [hc, HS.out]
      clear hs HS
      by_cases h3 : s.size ≤ 3000
      · have d3 : decide ((3000 : Int) < (s.size : Int)) = false := by simp; omega
        have hsv := hid hI.out.srv
        clear h3
        go_wp2_with fail
        refine hsv.out.mono ?_
        rintro e0 w0 ⟨rfl, rfl⟩
        go_wp2_with fail
        refine (hI.out.down hk4 _).mono ?_
        rintro e0 w3 ⟨rfl, hI3⟩
        have e3 := hTx.out _ hI3.low
        have HI3 := hid hI3
        clear hI3 hsv e1 hI
        go_wp2_with fail
        refine (HI3.out.write hk4 (by omega) s).mono ?_
        rintro e0 w4 (⟨rfl, hI4⟩ | ⟨rfl, hI4⟩)
        · have HI4 := hid hI4
          clear hI4 HI3 e3
          go_wp2_with fail
          go_roundw
          case rel => exact ⟨i + 1, S, by omega, by omega, by go_num, HI4⟩
          case measure => simp [intOf]; omega
        · have e4 := hTx.out _ hI4.low
          have hsz4 := hI4.low.size
          have HI4 := hid hI4
          clear hI4 HI3 e3
          go_wp2_with (at_builtin; first
            | (refine wpList_app1o _ rfl (.tmp 68) (.tmp 73) 41 9 (.string ⟨#[]⟩) 16 rfl Tryz.underlying41 info9 rfl (by decide) w.heap.size u9 S.length (strs S) rfl HI4.out.own9 _ rfl rfl (by omega) hsz4 ?_; intro v' w5 h5 h6 h7; have HI5 := hid (HI4.out.app9 h5 h6 h7); have hsz5 := HI5.out.low.size; clear h5 h6 h7)
            | (refine wpList_app1o _ rfl (.tmp 75) (.tmp 77) 26 3 (.int .i64 0) 8 rfl Tryz.underlying26 info3 rfl (by decide) w.heap.size u10 (F.upto S.length).length (nums (F.upto S.length)) rfl HI5.out.own10 _ rfl rfl (by rw [F.upto_len]; omega) hsz5 ?_; intro v'' w6 h5 h6 h7; have HI6 := hid (HI5.out.app10 h5 h6 h7); clear h5 h6 h7))
          go_roundw
          case rel => exact ⟨i + 1, S ++ [s], by omega, by simp; omega, by go_num, by rw [List.length_append, List.length_singleton, F.upto_succ]; exact HI6.out⟩
          case measure => simp [intOf]; omega
      · have d3 : decide ((3000 : Int) < (s.size : Int)) = true := by simp; omega
        have hcA := hid (awake_any wr)
        have HB := hid hI.out.low
        clear h3 hI
        go_wp2_with fail
        refine hcA.out.mono ?_
        rintro e0 w3 ⟨rfl, hb⟩
        have HB3 := hid (HB.out.trans (hb.mono HB.out.size))
        clear hb hcA
        go_wp2_with fail
        go_ret
        exact ⟨rfl, HB3.out⟩
    · obtain rfl : i = len := by omega
      obtain ⟨A9, c9, rfl⟩ := own_form hI.out.own9
      obtain ⟨A10, c10, h10⟩ := own_form hI.out.own10
      rw [F.upto_len] at h10
      subst h10
      have hsv := hid hI.out.srv
      go_wp2_with fail
      refine hsv.out.mono ?_
      rintro e0 w0 ⟨rfl, rfl⟩
      go_wp2_with fail
      refine (hI.out.up hk4).mono ?_
      rintro e0 w2 ⟨rfl, hU⟩
      have HU := hid hU
      clear hU hI hsv
      go_wp2_with fail
      refine HU.out.new.mono ?_
      rintro e0 w3 ⟨rfl, hF⟩
      have HF := hid hF
      clear hF HU
      obtain ⟨r, hr⟩ : ∃ r, r = w2.heap.size := ⟨_, rfl⟩
      rw [← hr] at HF ⊢
      clear hr
      go_wp2_with fail
      refine (HF.out.fail hk4).mono ?_
      rintro e0 w4 ⟨rfl, hG⟩
      have HG := hid hG
      clear hG HF
      go_wp2_with fail
      refine (HG.out.start hk4).mono ?_
      rintro e0 w5 ⟨rfl, hR⟩
      have HR := hid hR
      clear hR HG
      obtain ⟨c, hc1, hc2, hc3⟩ := step_num step
      have HC3 := hid hc3
      clear hc3
      obtain ⟨m, hm⟩ : ∃ m, m = S.length := ⟨_, rfl⟩
      have hm6 : m ≤ 6 := by omega
      have HR0 : Hid (LR w a r k S A9 A10 (min m (0 * c)) w5) := by
        rw [Nat.zero_mul, Nat.min_zero]
        exact HR.out
      have HM := hid hm
      rw [← hm]
      clear HR hS hm
      go_wp2_with fail
      go_loopw [17] (fun v17 wi => ∃ i : Nat, i ≤ m + 1 ∧ v17 = .int .i64 i ∧ Hid (LR w a r k S A9 A10 (min m (i * c)) wi)) (fun v17 _ => m + 1 - (intOf v17).toNat)
      case atStart => exact ⟨0, by omega, rfl, HR0⟩
      case round =>
        clear HR0
        obtain ⟨i, hi, rfl, hI⟩ := hrel
        by_cases him : i ≤ m
        · have i1 : (i : Int) ≤ (m : Int) := by omega
          obtain ⟨t, ht⟩ : ∃ t, t = min m (i * c) := ⟨_, rfl⟩
          rw [← ht] at hI
          have HT := hid ht
          clear ht
          go_wp2_with fail
          go_loopw [18] (fun v18 wi => ∃ j : Nat, j ≤ m ∧ v18 = .int .i64 j ∧ Hid (LR w a r k S A9 A10 t wi)) (fun v18 _ => m - (intOf v18).toNat)
          case atStart => exact ⟨0, by omega, rfl, hI⟩
          case round =>
            clear hI
            obtain ⟨j, hj, rfl, hJ⟩ := hrel
            by_cases hjm : j < m
            · have j0 : (0 : Int) ≤ (j : Int) := by omega
              have j1 : (j : Int) < (m : Int) := by omega
              obtain ⟨s, hs⟩ : ∃ s, S[j]? = some s := ⟨_, List.getElem?_eq_getElem (by rw [← HM.out]; exact hjm)⟩
              obtain ⟨ad10, rfl, e1⟩ := hJ.out.ids (j := j) (by rw [← HM.out]; exact hjm)
              obtain ⟨ad9, rfl, -⟩ := hJ.out.ins hs
              have hrd := hid (hJ.out.read hs)
              have HS := hid hs
              clear hs hJ
              go_wp2_with fail
              refine hrd.out.mono ?_
              rintro e0 w6 ⟨rfl, hR6⟩
              obtain ⟨ad9', h9, e2⟩ := hR6.ins HS.out
              cases h9
              have HR6 := hid hR6
              clear hR6 hrd e1
              go_wp2_with fail
              refine ⟨⟨j + 1, by omega, by go_num, HR6⟩, ?_⟩
              simp [intOf]
              omega
            · obtain rfl : j = m := by omega
              have hst := hid (hJ.out.step c)
              clear hJ
              go_wp2_with fail
              rw [HC3.out]
              refine hst.out.mono ?_
              rintro e0 w6 ⟨z, rfl, hR6⟩
              rw [← HM.out, lap HT.out] at hR6
              have HR6 := hid hR6
              clear hR6 hst
              go_wp2_with fail
              refine ⟨⟨i + 1, by omega, by go_num, HR6⟩, ?_⟩
              simp [intOf]
              omega
        · obtain rfl : i = m + 1 := by omega
          have i1 : ¬ (((m + 1 : Nat) : Int) ≤ (m : Int)) := by omega
          have hmc : min m ((m + 1) * c) = m := by
            have := Nat.le_mul_of_pos_right (m + 1) hc1
            omega
          rw [hmc] at hI
          have hfi : Hid (Calls Tryz.prog 21 #[.pointer (some ⟨r, 0, none⟩)] wr fun e w' => e = .returned (.int .i64 0) ∧ LS w a k S A10 w') := by
            refine LR.finish (A9 := A9) ?_
            rw [← HM.out]
            exact hI.out
          clear hI hmc
          go_wp2_with fail
          refine hfi.out.mono ?_
          rintro e0 w6 ⟨rfl, hS⟩
          have HS := hid hS
          clear hS hfi
          go_wp2_with fail
          refine HS.out.stripes.mono ?_
          rintro e0 w7 ⟨rfl, hS⟩
          have HS7 := hid hS
          clear hS HS
          go_wp2_with fail
          go_loopw [23] (fun v23 wi => ∃ j : Nat, j ≤ m ∧ v23 = .int .i64 j ∧ Hid (LS w a k S A10 wi)) (fun v23 _ => m - (intOf v23).toNat)
          case atStart => exact ⟨0, by omega, rfl, HS7⟩
          case round =>
            clear HS7
            obtain ⟨j, hj, rfl, hJ⟩ := hrel
            by_cases hjm : j < m
            · have j0 : (0 : Int) ≤ (j : Int) := by omega
              have j1 : (j : Int) < (m : Int) := by omega
              obtain ⟨ad10, rfl, e1⟩ := hJ.out.ids (j := j) (by rw [← HM.out]; exact hjm)
              have hck := hid (hJ.out.check (j := j) (by rw [← HM.out]; exact hjm))
              clear hJ
              go_wp2_with fail
              refine hck.out.mono ?_
              rintro e0 w8 ⟨rfl, hS⟩
              have HS8 := hid hS
              clear hS hck e1
              go_wp2_with fail
              go_roundw
              case rel => exact ⟨j + 1, by omega, by go_num, HS8⟩
              case measure => simp [intOf]; omega
            · obtain rfl : j = m := by omega
              have hcA := hid (awake_any wr)
              have HB := hid hJ.out.low
              clear hJ
              go_wp2_with fail
              refine hcA.out.mono ?_
              rintro e0 w8 ⟨rfl, hb⟩
              have HB8 := hid (HB.out.trans (hb.mono HB.out.size))
              clear hb hcA
              go_wp2_with fail
              go_ret
              exact ⟨rfl, HB8.out⟩
theorem stripes_walk (lost step : Int) {A : Option Addr} {len cap : Nat} {w : World} (h : ∃ l : List ByteArray, l.length = len ∧ Holds w w.heap.size A (strs l)) :
    Calls Tryz.prog 4 #[.slice A len cap, .int .i64 lost, .int .i64 step] w fun e w' => e = .returned (.bool true) ∧ Below w.heap.size w w' := by
  by_cases hg : len ≤ 6
  · exact stripes_in lost step hg h
  have h60 : decide ((6 : Int) < (len : Int)) = true := by simp; omega
  have hcA := hid (awake_any w)
  clear hg h
  go_enter Tryz.func4, Tryz.ntmps4
  go_wp2_with fail
  refine hcA.out.mono ?_
  rintro e w' ⟨rfl, hb⟩
  have HB := hid hb
  clear hb
  go_wp2_with fail
  go_ret
  exact ⟨rfl, HB.out⟩
end Go.Proofs.YtopbojifllnckaaGreatDoor
