/- smap: Begin. smap: On. smap: On, Move. -/
import Derived.Deep.RegionLaw
import Derived.Test.YtopbojifllnckaaGreatDoorG24
namespace Go.Proofs.YtopbojifllnckaaGreatDoor
open Go.RowKit
attribute [local irreducible] wpQuiet
section
variable {P : Program} (w : World) {o : Oper} {a : Act} {K : Act → World → Prop} {Q : Exit → Act → World → Prop}
/-- One element more of any size, out of a row that was just built. -/
theorem step_appB {ops : Array Oper} {E : Prop} (hgd : o.guard = none) (s x : Operand) (t e : TypeId) (z : Value) (size bytes : Nat) (ho : o.op = .call { callee := .builtin .append, args := #[s, x], argTypes := #[t, t] })
    (ht : P.underlying t = some (.slice e)) (hinfo : (P.info? e).map (fun i => (i.zero, i.size, i.bytes)) = some (some z, size, bytes)) (hz : z.cells.size = size) (hs0 : 0 < size) (hb0 : 0 < bytes)
    (base : Nat) (v : Value) (n : Nat) (xs : List Value) (hs : a.eval s = v) (hown : w.ownsRow base e size v n xs) (cs : Array Value) (hcs : cs.size = size) (hx : a.eval x = .slice (some ⟨w.heap.size, 0, none⟩) 1 1)
    (h1 : ∀ u ∈ cs.toList, u.oneCell' = true) (hlen : (n + 1) * bytes ≤ 140737488355328) (hbase : base ≤ w.heap.size)
    (h : ∀ v' w', w'.ownsRow base e size v' (n + 1) (xs ++ cs.toList) → w.heap.size ≤ w'.heap.size → (∀ k, k < w.heap.size → v.ownBlock ≠ some k → w'.heap[k]? = w.heap[k]?) → (w'.os = w.os ∧ w'.tape = w.tape ∧ w'.output = w.output) → (v'.ownBlock = v.ownBlock ∨ v'.ownBlock = some (w.heap.size + 1)) → K (a.put o.dst v') w') :
    if Region.wanted o (yielded ops a.tmps) = true then Oper.wp P o a (w.alloc (.cells cs e)) K Q else E := by
  have hw : Region.wanted o (yielded ops a.tmps) = true := by simp [Region.wanted, hgd]
  rw [if_pos hw]
  refine wp_appS (w.alloc (.cells cs e)) s x t e z size bytes ho ht hinfo hz hs0 hb0 base v n xs hs (hown.alloc _) (w.heap.size + 1) (some ⟨w.heap.size, 0, none⟩) 1 1 cs.toList hx (by simp [hcs]) ?_ h1 hlen (by simp; omega) fun v' w' h2 h3 h4 => h v' w' h2 ?_ ?_ ⟨h3.os, h3.tape, h3.output⟩ ?_
  · have := Holds.of_blk (B := w.heap.size + 1) (Blk.new w e cs) 0 size (by omega)
    rw [List.drop_zero, List.take_of_length_le (by simp [hcs])] at this
    exact this
  · have := h3.size
    simp at this
    omega
  · intro k hk hne
    exact (h3.block k (by simp; omega) (fun e => hne e.symm)).trans (Below.heap_alloc w _ k hk)
  · simpa using h4
/-- The same, behind a draw. -/
theorem step_appBd {ops : Array Oper} {E : Prop} (hgd : o.guard = none) (s x : Operand) (t e : TypeId) (z : Value) (size bytes : Nat) (ho : o.op = .call { callee := .builtin .append, args := #[s, x], argTypes := #[t, t] })
    (ht : P.underlying t = some (.slice e)) (hinfo : (P.info? e).map (fun i => (i.zero, i.size, i.bytes)) = some (some z, size, bytes)) (hz : z.cells.size = size) (hs0 : 0 < size) (hb0 : 0 < bytes)
    (base : Nat) (v : Value) (n : Nat) (xs : List Value) (hs : a.eval s = v) (hown : w.ownsRow base e size v n xs) (cs : Array Value) (hcs : cs.size = size) (hx : a.eval x = .slice (some ⟨w.heap.size, 0, none⟩) 1 1)
    (h1 : ∀ u ∈ cs.toList, u.oneCell' = true) (hlen : (n + 1) * bytes ≤ 140737488355328) (hbase : base ≤ w.heap.size)
    (h : ∀ v' w', w'.ownsRow base e size v' (n + 1) (xs ++ cs.toList) → w.heap.size ≤ w'.heap.size → (∀ k, k < w.heap.size → v.ownBlock ≠ some k → w'.heap[k]? = w.heap[k]?) → (w'.os = w.os ∧ w'.tape = w.tape ∧ w'.output = w.output) → (v'.ownBlock = v.ownBlock ∨ v'.ownBlock = some (w.heap.size + 1)) → K (a.put o.dst v') w') :
    if Region.wanted o (yielded ops a.tmps) = true then Oper.wp P o a (w.alloc (.cells cs e)).drew K Q else E :=
  step_appB w.drew hgd s x t e z size bytes ho ht hinfo hz hs0 hb0 base v n xs hs hown cs hcs hx h1 hlen hbase h
end
theorem info37 : (Tryz.prog.info? 37).map (fun i => (i.zero, i.size, i.bytes)) = some (some (.agg #[.int .i64 0, .int .i64 0, .int .i64 0, .int .i64 0, .int .i64 0, .slice none 0 0]), 6, 64) := by kernel_rfl
theorem Smp.mono {S T : Nat → Prop} {w : World} {g : Nat} {L : List Str} (h : Smp S w g L) (hST : ∀ k, S k → T k) : Smp T w g L := by
  obtain ⟨A, c, op, h1, h2, h3, h4, h5⟩ := h
  exact ⟨A, c, op, h1, h2, hST _ h3, fun ad e => hST _ (h4 ad e), fun s hs => ⟨hST _ (h5 s hs).1, (h5 s hs).2⟩⟩
/-- How Begin ends. -/
def BEnd (S : Nat → Prop) (w : World) (g : Nat) (L : List Str) (ow ep ln : Int) (e : Ending) (w' : World) : Prop :=
  Only S w w' ∧ ((∃ er : Nat, er ≠ 0 ∧ er < 17 ∧ e = .returned (.tuple #[.int .i64 0, .int .i64 er]) ∧ Smp S w' g L) ∨
    ∃ q c, e = .returned (.tuple #[.int .i64 L.length, .int .i64 0]) ∧ Smp (Grow S w w') w' g (L ++ [⟨1, ow, ep, ln, q, c⟩]))
section
variable {S : Nat → Prop} {w : World} {g : Nat} {L : List Str} {B c : Nat} {A : Option Addr} {xs : List Int}
/-- The last step of Begin. -/
theorem begin_end {W W' : World} {A0 A2 : Option Addr} {c0 c1 c2 q p : Nat} {op ow ep ln x : Int} {T : Array Value} (hD : Smp S W g L) (hb : Blk W g 156 #[.slice A0 L.length c0, .int .i64 op]) (hrow0 : W.ownsRow 0 37 6 (.slice A0 L.length c0) L.length (rowS 0 L)) (hS0 : ∀ ad, A0 = some ad → S ad.block)
    (hB : Below w.heap.size w W) (hq : W.ownsRow w.heap.size 3 1 (.slice (some ⟨q, 0, none⟩) 3 c1) 3 (nums xs)) (hp : Blk W p 37 T)
    (hT : T = #[.int .i64 (L.length : Int), .int .i64 1, .int .i64 ow, .int .i64 ep, .int .i64 ln, .slice (some ⟨q, 0, none⟩) 3 c1])
    (h1 : W'.ownsRow 0 37 6 (.slice A2 (L.length + 1) c2) (L.length + 1) (rowS 0 L ++ T.toList)) (h2 : W.heap.size ≤ W'.heap.size) (h3 : ∀ k, k < W.heap.size → (Value.slice A0 L.length c0).ownBlock ≠ some k → W'.heap[k]? = W.heap[k]?)
    (h4 : W'.os = W.os ∧ W'.tape = W.tape ∧ W'.output = W.output) (h5 : (Value.slice A2 (L.length + 1) c2).ownBlock = (Value.slice A0 L.length c0).ownBlock ∨ (Value.slice A2 (L.length + 1) c2).ownBlock = some (W.heap.size + 1)) :
    Only S w ((W'.setCell ⟨g, 0, none⟩ (.slice A2 (L.length + 1) c2)).setCell ⟨g, 1, none⟩ (.int .i64 x)) ∧
    Smp (Grow S w ((W'.setCell ⟨g, 0, none⟩ (.slice A2 (L.length + 1) c2)).setCell ⟨g, 1, none⟩ (.int .i64 x))) ((W'.setCell ⟨g, 0, none⟩ (.slice A2 (L.length + 1) c2)).setCell ⟨g, 1, none⟩ (.int .i64 x)) g (L ++ [⟨1, ow, ep, ln, q, c1⟩]) := by
  subst hT
  obtain ⟨A1, c3, op', k1, k2, hsg, k4, hsv⟩ := hD
  have hown : ∀ r, (Value.slice A0 L.length c0).ownBlock = some r → S r ∧ ∃ cur, Blk W r 37 cur := fun r e => by
    rcases own_blk hrow0 with ⟨rfl, _⟩ | ⟨r', cur, rfl, _, h7, _⟩
    · cases e
    · cases e; exact ⟨hS0 _ rfl, cur, h7⟩
  have hgo : ∀ k t cur, Blk W k t cur → t ≠ 37 → (Value.slice A0 L.length c0).ownBlock ≠ some k := fun k t cur hk ht e => by
    obtain ⟨_, cur', hk'⟩ := hown k e
    exact hk.ne_ hk' ht rfl
  have hbg : Blk W' g 156 #[.slice A0 L.length c0, .int .i64 op] := (h3 g hb.lt (hgo g _ _ hb (by decide))).trans hb
  have hl : (L ++ [(⟨1, ow, ep, ln, q, c1⟩ : Str)]).length = L.length + 1 := by simp
  have hz : ((W'.setCell ⟨g, 0, none⟩ (.slice A2 (L.length + 1) c2)).setCell ⟨g, 1, none⟩ (.int .i64 x)).heap.size = W'.heap.size := by simp [World.setCell]
  have hkeep : ∀ k, k ≠ g → ((W'.setCell ⟨g, 0, none⟩ (.slice A2 (L.length + 1) c2)).setCell ⟨g, 1, none⟩ (.int .i64 x)).heap[k]? = W'.heap[k]? := fun k hk => (Below.heap_setCell _ _ _ k hk).trans (Below.heap_setCell _ _ _ k hk)
  have hints : ∀ (b t cc : Nat) (ys : List Int), W.ownsRow t 3 1 (.slice (some ⟨b, 0, none⟩) 3 cc) 3 (nums ys) → ((W'.setCell ⟨g, 0, none⟩ (.slice A2 (L.length + 1) c2)).setCell ⟨g, 1, none⟩ (.int .i64 x)).ownsRow 0 3 1 (.slice (some ⟨b, 0, none⟩) 3 cc) 3 (nums ys) := fun b t cc ys hy => by
    rcases own_blk hy with ⟨e, _⟩ | ⟨b', cur, e, _, h7, _⟩
    · cases e
    · cases e
      refine own_lower (own_at hy fun ad e hlt => ?_) (Nat.zero_le _)
      cases e
      exact (hkeep b (h7.ne_ hb (by decide))).trans (h3 b hlt (hgo b _ _ h7 (by decide)))
  refine ⟨⟨h4.1.trans hB.os, h4.2.1.trans hB.tape, h4.2.2.trans hB.output, by rw [hz]; exact Nat.le_trans hB.size h2, fun k hk hs => ?_⟩, A2, c2, x, ?_, ?_, .inl hsg, fun ad e => ?_, fun s hs => ?_⟩
  · exact (hkeep k (fun e => hs (e ▸ hsg))).trans ((h3 k (Nat.lt_of_lt_of_le hk hB.size) (fun e => hs (hown k e).1)).trans (hB.block k hk))
  · rw [hl]
    exact (hbg.set_ 0 _).set_ 1 _
  · rw [hl, rowS_append, Nat.zero_add]
    refine own_at h1 fun ad e hlt => hkeep _ ?_
    subst e
    rcases own_blk h1 with ⟨e, _⟩ | ⟨b', cur, e, _, h7, _⟩
    · cases e
    · cases e
      exact h7.ne_ hbg (by decide)
  · subst e
    rcases own_blk h1 with ⟨e, _⟩ | ⟨b', cur, e, _, h7, _⟩
    · cases e
    · cases e
      rcases h5 with h5 | h5
      · exact .inl (hown b' h5.symm).1
      · have e1 : b' = W.heap.size + 1 := by injection h5
        refine .inr ⟨by have := hB.size; show w.heap.size ≤ b'; omega, ?_⟩
        rw [hz]
        exact h7.lt
  · rcases List.mem_append.1 hs with hs | hs
    · obtain ⟨h8, ys, h9⟩ := hsv s hs
      exact ⟨.inl h8, ys, hints _ _ _ _ h9⟩
    · obtain rfl := List.mem_singleton.1 hs
      refine ⟨.inr ⟨?_, ?_⟩, xs, hints _ _ _ _ hq⟩
      · rcases own_blk hq with ⟨e, _⟩ | ⟨b', cur, e, h6, h7, _⟩
        · cases e
        · cases e; exact h6
      · rw [hz]
        rcases own_blk hq with ⟨e, _⟩ | ⟨b', cur, e, h6, h7, _⟩
        · cases e
        · cases e; exact Nat.lt_of_lt_of_le h7.lt h2
set_option maxRecDepth 100000 in
set_option maxHeartbeats 1600000 in
theorem sBegin_any (h : Smp S w g L) (hSB : ∀ k, S k → k < w.heap.size) (ow ep ln : Int) (hh : Holds w B A (nums xs)) (hB : B ≤ w.heap.size) (hx : xs.length = 3) (hL : L.length ≤ 100000) :
    Calls Tryz.prog 156 #[.pointer (some ⟨g, 0, none⟩), .int .i64 ow, .int .i64 ep, .int .i64 ln, .slice A 3 c] w fun e w' => BEnd S w g L ow ep ln e w' := by
  have hc := hid (clone_any (c := c) hh hx hB (by omega))
  have H := hid h
  have HX := hid hx
  have HSB := hid hSB
  clear h hh hx hSB
  go_enter Tryz.func156, Tryz.ntmps156
  go_wp2_with fail
  refine hc.out.mono ?_
  rintro e w1 ⟨v, rfl, h1, h2⟩
  unfold NewInts at h1
  rw [HX.out] at h1
  obtain ⟨A1, c1, rfl⟩ := own_form h1
  obtain ⟨q, cur, rfl, hwq⟩ : ∃ q cur, A1 = some ⟨q, 0, none⟩ ∧ w.heap.size ≤ q ∧ Blk w1 q 3 cur := by
    rcases own_blk h1 with ⟨_, h3, _⟩ | ⟨q, cur, h3, h4, h5, _⟩
    · omega
    · exact ⟨q, cur, h3, h4, h5⟩
  have hs1 := h2.size
  have H1 := hid h1
  have H2 := hid h2
  have hc31 := (own_holdsS h1).2.1
  clear h1 h2
  go_wp2_with fail
  have hX := Blk.new w1 37 #[.int .i64 0, .int .i64 1, .int .i64 ow, .int .i64 ep, .int .i64 ln, .slice (some ⟨q, 0, none⟩) 3 c1]
  have hh2 := (own_holdsS (H1.out.alloc (.cells #[.int .i64 0, .int .i64 1, .int .i64 ow, .int .i64 ep, .int .i64 ln, .slice (some ⟨q, 0, none⟩) 3 c1] 37))).1
  refine (smay_any hh2 HX.out hc31 (Nat.le_refl _) 0 1 ow ep ln).mono ?_
  rintro e w3 ⟨⟨b, rfl⟩, h3⟩
  have hz2 : (w1.alloc (.cells #[.int .i64 0, .int .i64 1, .int .i64 ow, .int .i64 ep, .int .i64 ln, .slice (some ⟨q, 0, none⟩) 3 c1] 37)).heap.size = w1.heap.size + 1 := by simp
  have hB3 := (H2.out.alloc hs1 (.cells #[.int .i64 0, .int .i64 1, .int .i64 ow, .int .i64 ep, .int .i64 ln, .slice (some ⟨q, 0, none⟩) 3 c1] 37)).trans (h3.mono (by rw [hz2]; omega))
  have hX3 := hX.below h3 (by rw [hz2]; omega)
  have hR3 : w3.ownsRow w.heap.size 3 1 (.slice (some ⟨q, 0, none⟩) 3 c1) 3 (nums xs) := own_keep (H1.out.alloc _) fun k _ hk => h3.block k hk
  have hS3 : Smp S w3 g L := H.out.keep fun k _ hk => hB3.block k hk
  have hs3 := h3.size
  rw [hz2] at hs3
  clear h3 hh2 hX hz2
  cases b with
  | false =>
    have HS3 := hid hS3
    have HB3 := hid hB3
    clear hS3 hB3 hX3 hR3
    go_wp2_with fail
    go_ret2
    exact ⟨Only.of_below HB3.out fun k hk _ => hk, .inl ⟨1, by omega, by omega, rfl, HS3.out⟩⟩
  | true =>
    obtain ⟨A0, c0, op, hb0, hrow, hsg, hsr, hsv⟩ := hS3
    have e0 : w3.cell? ⟨g, 0, none⟩ = some (.slice A0 L.length c0) := (hb0.cell 0).trans rfl
    have e1 : w3.cell? ⟨g, 1, none⟩ = some (.int .i64 op) := (hb0.cell 1).trans rfl
    have hS3 : Hid (Smp S w3 g L) := ⟨A0, c0, op, hb0, hrow, hsg, hsr, hsv⟩
    have HB3 := hid hB3
    have HD := hid (And.intro hb0 (And.intro hrow (And.intro hsg (And.intro hsr hsv))))
    have hgp : g ≠ w1.heap.size := by have := HSB.out g hsg; omega
    have hpg : w1.heap.size ≠ g := Ne.symm hgp
    obtain ⟨x0, x1, x2, x3, x4, x5⟩ := agg6 hX3
    have fx := hX3.frozen 0
    have HX3 := hid hX3
    have HR3 := hid hR3
    clear hb0 hrow hsg hsr hsv hB3 hX3 hR3
    by_cases hop : 256 ≤ op
    · have d0 : decide (256 ≤ op) = true := by simp; omega
      go_wp2_with fail
      go_ret2
      exact ⟨Only.of_below HB3.out fun k hk _ => hk, .inl ⟨5, by omega, by omega, rfl, hS3.out⟩⟩
    have d0 : decide (256 ≤ op) = false := by simp; omega
    by_cases hln : 4096 ≤ L.length
    · have d1 : decide (4096 ≤ L.length) = true := by simp; omega
      have d1' : decide ((4096 : Int) ≤ (L.length : Int)) = true := by simp; omega
      go_wp2_with fail
      go_ret2
      exact ⟨Only.of_below HB3.out fun k hk _ => hk, .inl ⟨5, by omega, by omega, rfl, hS3.out⟩⟩
    have d1 : decide (4096 ≤ L.length) = false := by simp; omega
    have d1' : decide ((4096 : Int) ≤ (L.length : Int)) = false := by simp; omega
    go_wp2_with fail
    obtain ⟨W, hW⟩ : ∃ W, W = w3.setCell ⟨w1.heap.size, 0, none⟩ (.int .i64 L.length) := ⟨_, rfl⟩
    rw [← hW]
    have hWz : W.heap.size = w3.heap.size := by rw [hW]; simp [World.setCell]
    have hWb : Blk W w1.heap.size 37 #[.int .i64 L.length, .int .i64 1, .int .i64 ow, .int .i64 ep, .int .i64 ln, .slice (some ⟨q, 0, none⟩) 3 c1] := by rw [hW]; exact HX3.out.set_ 0 _
    have hWk : ∀ k, k ≠ w1.heap.size → W.heap[k]? = w3.heap[k]? := fun k hk => by rw [hW]; exact Below.heap_setCell w3 _ _ k hk
    have hWB : Below w.heap.size w W := by rw [hW]; exact HB3.out.setCell (p := ⟨w1.heap.size, 0, none⟩) hs1 _
    clear e0 e1 x0 x1 x2 x3 x4 x5 fx hW
    have e0 : W.cell? ⟨g, 0, none⟩ = some (.slice A0 L.length c0) := (World.cell?_of_block (hWk g hgp)).trans ((HD.out.1.cell 0).trans rfl)
    obtain ⟨x0, x1, x2, x3, x4, x5⟩ := agg6 hWb
    have n0 : (W.alloc (.cells #[.int .i64 L.length, .int .i64 1, .int .i64 ow, .int .i64 ep, .int .i64 ln, .slice (some ⟨q, 0, none⟩) 3 c1] 37)).drew.cell? ⟨g, 0, none⟩ = some (.slice A0 L.length c0) := (World.cell?_of_block (w := W) (Below.heap_alloc W _ g (World.block_lt_of_cell? W _ e0))).trans e0
    have hrow : W.ownsRow 0 37 6 (.slice A0 L.length c0) L.length (rowS 0 L) := own_at HD.out.2.1 fun ad e hlt => hWk _ (by have := HSB.out _ (HD.out.2.2.2.1 ad e); omega)
    have HROW := hid hrow
    have HWK := hid hWk
    have HWB := hid hWB
    have hlen : Hid ((L.length + 1) * 64 ≤ 140737488355328) := by show _ ≤ _; omega
    have hone : Hid (∀ u ∈ (#[.int .i64 (L.length : Int), .int .i64 1, .int .i64 ow, .int .i64 ep, .int .i64 ln, .slice (some ⟨q, 0, none⟩) 3 c1] : Array Value).toList, u.oneCell' = true) := fun u hu => by
      simp only [List.mem_cons, List.not_mem_nil, or_false] at hu
      rcases hu with rfl | rfl | rfl | rfl | rfl | rfl <;> rfl
    have HWZ := hid hWz
    have hgW : Hid (g < W.heap.size ∧ w1.heap.size < W.heap.size ∧ (Value.slice A0 L.length c0).ownBlock ≠ some g ∧ (Value.slice A0 L.length c0).ownBlock ≠ some w1.heap.size ∧ (∀ r, (Value.slice A0 L.length c0).ownBlock = some r → S r) ∧ (∀ r, (Value.slice A0 L.length c0).ownBlock = some r → ∃ cur, Blk w3 r 37 cur)) := by
      refine ⟨by have := HD.out.1.lt; omega, hWb.lt, ?_, ?_, ?_, ?_⟩ <;> rcases own_blk HD.out.2.1 with ⟨rfl, _⟩ | ⟨r, cur, rfl, _, h7, _⟩
      · simp [Value.ownBlock]
      · intro e; cases e; exact (h7.ne_ HD.out.1 (by decide)) rfl
      · simp [Value.ownBlock]
      · intro e
        have h8 : r < w.heap.size := HSB.out r (HD.out.2.2.2.1 _ rfl)
        have h9 : r = w1.heap.size := by injection e
        omega
      · intro r e; cases e
      · intro r e; cases e; exact HD.out.2.2.2.1 _ rfl
      · intro r e; cases e
      · intro r e; cases e; exact ⟨cur, h7⟩
    have HWBLK := hid hWb
    have HRW : Hid (W.ownsRow w.heap.size 3 1 (.slice (some ⟨q, 0, none⟩) 3 c1) 3 (nums xs)) := own_at HR3.out fun ad e hlt => by
      cases e
      refine HWK.out q fun e => ?_
      rcases own_blk HR3.out with ⟨e2, _⟩ | ⟨b', cur, e2, h6, h7, _⟩
      · cases e2
      · cases e2
        exact h7.ne_ HX3.out (by decide) e
    have HSW : Hid (Smp S W g L) := hS3.out.keep fun k hs hk => HWK.out k (by have := HSB.out k hs; omega)
    clear hrow hWk hWB hWz hWb
    go_region_law ((refine step_appBd _ rfl (.tmp 51) (.tmp 53) 154 37 (.agg #[.int .i64 0, .int .i64 0, .int .i64 0, .int .i64 0, .int .i64 0, .slice none 0 0]) 6 64 rfl Tryz.underlying154 info37 rfl (by decide) (by decide) 0 (.slice A0 L.length c0) L.length (rowS 0 L) rfl (by exact HROW.out) #[.int .i64 (L.length : Int), .int .i64 1, .int .i64 ow, .int .i64 ep, .int .i64 ln, .slice (some ⟨q, 0, none⟩) 3 c1] rfl rfl hone.out hlen.out (Nat.zero_le _) ?_; intro v' w' q1 q2 q3 q4 q5; obtain ⟨A2, c2, rfl⟩ := own_form q1; have hbg : Blk w' g 156 #[.slice A0 L.length c0, .int .i64 op] := (q3 g hgW.out.1 hgW.out.2.2.1).trans ((HWK.out g hgp).trans HD.out.1); have hbp : Blk w' w1.heap.size 37 #[.int .i64 L.length, .int .i64 1, .int .i64 ow, .int .i64 ep, .int .i64 ln, .slice (some ⟨q, 0, none⟩) 3 c1] := (q3 _ hgW.out.2.1 hgW.out.2.2.2.1).trans HWBLK.out; have g0 : w'.cell? ⟨g, 0, none⟩ = some (.slice A0 L.length c0) := (hbg.cell 0).trans rfl; have g1 : w'.cell? ⟨g, 1, none⟩ = some (.int .i64 op) := (hbg.cell 1).trans rfl; have g2 := hbg.frozen 0; have g3 := hbg.frozen 1; have g4 : w'.cell? ⟨w1.heap.size, 0, none⟩ = some (.int .i64 L.length) := (hbp.cell 0).trans rfl; have Q1 := hid q1; have Q2 := hid (And.intro q2 (And.intro q3 (And.intro q4 (And.intro q5 (And.intro hbg hbp))))); clear q1 q2 q3 q4 q5 hbg hbp))
    all_goals
      go_wp2_with fail
      go_ret2
      obtain ⟨r1, r2⟩ := begin_end (x := wrap64 (op + 1)) HSW.out ((HWK.out g hgp).trans HD.out.1) HROW.out HD.out.2.2.2.1 HWB.out HRW.out HWBLK.out rfl Q1.out Q2.out.1 Q2.out.2.1 Q2.out.2.2.1 Q2.out.2.2.2.1
      exact ⟨r1, .inr ⟨q, c1, rfl, r2⟩⟩
end
end Go.Proofs.YtopbojifllnckaaGreatDoor
namespace Go.Proofs.YtopbojifllnckaaGreatDoor
open Go.RowKit
attribute [local irreducible] wpQuiet
theorem cellA {w : World} {a : Addr} {v : Value} (h : w.cell? a = some v) (o : Obj) : (w.alloc o).cell? a = some v :=
  (World.cell?_of_block (w := w) (Below.heap_alloc w o a.block (World.block_lt_of_cell? w a h))).trans h
section
variable {S : Nat → Prop} {w : World} {g : Nat} {L : List Str}
set_option maxRecDepth 100000 in
theorem on1_any {p : Nat} {x : Int} (hp : w.cell? ⟨p, 0, none⟩ = some (.int .i64 x)) (i st ow ep ln : Int) {q c : Nat} {xs : List Int} (hq : w.ownsRow 0 3 1 (.slice (some ⟨q, 0, none⟩) 3 c) 3 (nums xs)) :
    Calls Tryz.prog 231 #[.agg #[.int .i64 i, .int .i64 st, .int .i64 ow, .int .i64 ep, .int .i64 ln, .slice (some ⟨q, 0, none⟩) 3 c], .pointer (some ⟨p, 0, none⟩)] w fun e w' => RBool e ∧ Below w.heap.size w w' := by
  have hx : xs.length = 3 := by have := hq.1; rw [nums_length] at this; omega
  have hh := (own_holdsS (hq.alloc (.cells #[.int .i64 i, .int .i64 st, .int .i64 ow, .int .i64 ep, .int .i64 ln, .slice (some ⟨q, 0, none⟩) 3 c] 37))).1
  have hc := hid (contains_any (c := c) x hh hx (by omega))
  have hb := hid ((Below.refl w.heap.size w).alloc (Nat.le_refl _) (.cells #[.int .i64 i, .int .i64 st, .int .i64 ow, .int .i64 ep, .int .i64 ln, .slice (some ⟨q, 0, none⟩) 3 c] 37))
  have hn := cellA hp (.cells #[.int .i64 i, .int .i64 st, .int .i64 ow, .int .i64 ep, .int .i64 ln, .slice (some ⟨q, 0, none⟩) 3 c] 37)
  clear hq hx hh
  by_cases h3 : st = 3
  · have d0 : (st != 3) = false := by simp [h3]
    clear h3
    go_enter Tryz.func231, Tryz.ntmps231
    go_wp2_with fail
    go_ret
    exact ⟨⟨_, rfl⟩, hb.out⟩
  · have d0 : (st != 3) = true := by simp [h3]
    clear h3
    go_enter Tryz.func231, Tryz.ntmps231
    go_wp2_with fail
    refine hc.out.mono ?_
    rintro e w' ⟨b, rfl, rfl⟩
    go_wp2_with fail
    go_ret
    exact ⟨⟨_, rfl⟩, hb.out⟩
def WhRel (w wr : World) (k : Nat) (v5 : Value) : Prop := ∃ J : List Int, wr.ownsRow w.heap.size 3 1 v5 J.length (nums J) ∧ J.length ≤ k ∧ Below w.heap.size w wr
/-- Some numbers, in new memory. -/
def Some3 (w w' : World) (n : Nat) (v : Value) : Prop := ∃ J : List Int, w'.ownsRow w.heap.size 3 1 v J.length (nums J) ∧ J.length ≤ n
set_option maxRecDepth 100000 in
set_option maxHeartbeats 1600000 in
theorem which_any (h : Smp S w g L) (hL : L.length ≤ 100000) {p : Nat} {x : Int} (hp : w.cell? ⟨p, 0, none⟩ = some (.int .i64 x)) :
    Calls Tryz.prog 186 #[.pointer (some ⟨g, 0, none⟩), .func (.func 231) #[] #[.pointer (some ⟨p, 0, none⟩)]] w fun e w' => ∃ v, e = .returned v ∧ Some3 w w' L.length v ∧ Below w.heap.size w w' := by
  obtain ⟨A, c, op, hb, hrow, hrest⟩ := h
  have e0 : w.cell? ⟨g, 0, none⟩ = some (.slice A L.length c) := (hb.cell 0).trans rfl
  obtain ⟨n, hn⟩ : ∃ n, n = L.length := ⟨_, rfl⟩
  have hlc : L.length ≤ c := (own_holdsS hrow).2.1
  have H : Hid (Smp S w g L) := ⟨A, c, op, hb, hrow, hrest⟩
  have HROW := hid hrow
  have hpl : Hid (p < w.heap.size) := World.block_lt_of_cell? w _ hp
  have HR := hid (And.intro hb hrest)
  clear hb hrow hrest hn
  go_enter Tryz.func186, Tryz.ntmps186
  go_wp2_with fail
  go_loopw [5, 15] (fun v5 v15 wr => ∃ k : Nat, k ≤ L.length ∧ v15 = .int .i64 k ∧ Hid (WhRel w wr k v5)) (fun _ v15 _ => L.length - (intOf v15).toNat)
  case atStart => exact ⟨0, Nat.zero_le _, rfl, [], World.ownsRow_nil _ _ _ _, Nat.le_refl _, Below.refl _ _⟩
  case round =>
    obtain ⟨k, hk, rfl, hI⟩ := hrel
    by_cases hkn : k < L.length
    · obtain ⟨s, hs⟩ : ∃ s, L[k]? = some s := ⟨_, List.getElem?_eq_getElem hkn⟩
      obtain ⟨J, hJ1, hJ2, hJ3⟩ := hI.out
      rcases own_blk HROW.out with ⟨_, h0, _⟩ | ⟨r, cur, rfl, _⟩
      · omega
      have hr0 : AtS S w g L r := ⟨⟨c, op, HR.out.1, HROW.out⟩, HR.out.2.1, HR.out.2.2.1 _ rfl, HR.out.2.2.2⟩
      have hr := hr0.below hJ3
      obtain ⟨a0, a1, a2, a3, a4, a5⟩ := hr.six hs
      obtain ⟨_, xs, hxs⟩ := hr.srv s (List.mem_of_getElem? hs)
      have hpr : wr.cell? ⟨p, 0, none⟩ = some (.int .i64 x) := (hJ3.cell hpl.out).trans hp
      have hX := Blk.new wr 37 #[.int .i64 (k : Int), .int .i64 s.st, .int .i64 s.ow, .int .i64 s.ep, .int .i64 s.ln, .slice (some ⟨s.g, 0, none⟩) 3 s.c]
      have hc := hid (on1_any (cellA hpr (.cells #[.int .i64 (k : Int), .int .i64 s.st, .int .i64 s.ow, .int .i64 s.ep, .int .i64 s.ln, .slice (some ⟨s.g, 0, none⟩) 3 s.c] 37)) (k : Int) s.st s.ow s.ep s.ln (hxs.alloc _))
      obtain ⟨z0, z1, z2, z3, z4, z5⟩ := agg6 hX
      have HX := hid hX
      have hsz := hJ3.size
      have HJ := hid (And.intro hJ1 (And.intro hJ2 hJ3))
      obtain ⟨m, hm⟩ : ∃ m, m = J.length := ⟨_, rfl⟩
      clear hJ1 hJ2 hJ3 hr hr0 hxs hX hs
      go_wp2_with fail
      refine hc.out.mono ?_
      rintro e w2 ⟨⟨b, rfl⟩, h2⟩
      have hX2 := HX.out.below h2 (by simp)
      have y0 : w2.cell? ⟨wr.heap.size, 0, none⟩ = some (.int .i64 k) := (hX2.cell 0).trans rfl
      have hw2 := h2.size
      have hB2 : Hid (Below wr.heap.size wr w2) := ((Below.refl wr.heap.size wr).alloc (Nat.le_refl _) _).trans (h2.mono (by simp))
      have hJ2r : Hid (w2.ownsRow w.heap.size 3 1 u5 J.length (nums J)) := own_keep HJ.out.1 fun k _ hk => hB2.out.block k hk
      have hw3 := hB2.out.size
      clear h2 hX2
      cases b with
      | false =>
        go_wp2_with fail
        go_roundw
        case rel => exact ⟨k + 1, by omega, by go_num, J, hJ2r.out, by have := HJ.out.2.1; omega, HJ.out.2.2.trans (hB2.out.mono hsz)⟩
        case measure => simp [intOf]; omega
      | true =>
        have hJk : J.length ≤ 100000 := by have := HJ.out.2.1; omega
        go_wp2_with (at_builtin; refine wpList_app1 _ rfl (.tmp 22) (.tmp 25) 26 3 (.int .i64 0) 8 rfl Tryz.underlying26 info3 rfl (by decide) w.heap.size u5 J.length (nums J) rfl (.inl hJ2r.out) _ rfl rfl (by omega) (by omega) ?_; intro v' w4 h5 h6; have H5 := hid h5; have H6 := hid h6; clear h5 h6)
        go_roundw
        case rel =>
          refine ⟨k + 1, by omega, by go_num, J ++ [(k : Int)], ?_, ?_, (HJ.out.2.2.trans (hB2.out.mono hsz)).trans H6.out⟩
          · have := H5.out
            rw [List.length_append]
            simpa [nums] using this
          · rw [List.length_append]
            have := HJ.out.2.1
            show J.length + 1 ≤ _
            omega
        case measure => simp [intOf]; omega
    · obtain rfl : k = L.length := by omega
      obtain ⟨J, hJ1, hJ2, hJ3⟩ := hI.out
      have HJ := hid (And.intro hJ1 (And.intro hJ2 hJ3))
      clear hJ1 hJ2 hJ3
      go_wp2_with fail
      go_ret
      exact ⟨_, rfl, ⟨J, HJ.out.1, HJ.out.2.1⟩, HJ.out.2.2⟩
end
end Go.Proofs.YtopbojifllnckaaGreatDoor
namespace Go.Proofs.YtopbojifllnckaaGreatDoor
open Go.RowKit
attribute [local irreducible] wpQuiet
section
variable {S : Nat → Prop} {w : World} {g : Nat} {L : List Str}
theorem sOn_any (h : Smp S w g L) (hSB : ∀ k, S k → k < w.heap.size) (hL : L.length ≤ 100000) (x : Int) :
    Calls Tryz.prog 167 #[.pointer (some ⟨g, 0, none⟩), .int .i64 x] w fun e w' => ∃ v, e = .returned v ∧ Some3 w w' L.length v ∧ Below w.heap.size w w' := by
  have hb := (Below.refl w.heap.size w).alloc (Nat.le_refl _) (.cells #[.int .i64 x] 3)
  have hx : (w.alloc (.cells #[.int .i64 x] 3)).cell? ⟨w.heap.size, 0, none⟩ = some (.int .i64 x) := by rw [(Blk.new w 3 _).cell]; rfl
  have hc := hid (which_any (h.keep fun k hk _ => hb.block k (hSB k hk)) hL hx)
  have HB := hid hb
  clear h hb hx hSB
  go_enter Tryz.func167, Tryz.ntmps167
  go_wp2_with fail
  refine hc.out.mono ?_
  rintro e w' ⟨v, rfl, ⟨J, h1, h2⟩, h3⟩
  have H1 := hid h1
  have H3 := hid h3
  clear h1 h3
  go_wp2_with fail
  go_ret
  exact ⟨v, rfl, ⟨J, own_lower H1.out (by simp), h2⟩, HB.out.trans (H3.out.mono (by simp))⟩
/-- A server is written. -/
theorem AtS.server {r : Nat} (h : AtS S w g L r) {s : Str} (hs : s ∈ L) (j : Nat) (y : Int) : AtS S (w.setCell ⟨s.g, j, none⟩ (.int .i64 y)) g L r := by
  obtain ⟨⟨c, op, h1, h2⟩, h3, h4, h5⟩ := h
  obtain ⟨_, xs0, hs0⟩ := h5 s hs
  have hbs : ∃ cur, Blk w s.g 3 cur := by
    rcases own_blk hs0 with ⟨e, _⟩ | ⟨q, cur, e, _, h7, _⟩
    · cases e
    · cases e; exact ⟨cur, h7⟩
  obtain ⟨cur, hcur⟩ := hbs
  refine ⟨⟨c, op, h1.far (h1.ne_ hcur (by decide)) _, own_at h2 fun ad e hlt => Below.heap_setCell w _ _ _ ?_⟩, h3, h4, fun t ht => ?_⟩
  · cases e
    rcases own_blk h2 with ⟨e, _⟩ | ⟨q, cur', e, _, h7, _⟩
    · cases e
    · cases e
      exact h7.ne_ hcur (by decide)
  · obtain ⟨h6, xs, h7⟩ := h5 t ht
    refine ⟨h6, ?_⟩
    by_cases e : t.g = s.g
    · have hset := (h7.stored j (.int .i64 y)).1
      rw [e] at hset
      have hl : xs.length = 3 := by have := h7.1; rw [nums_length] at this; omega
      refine ⟨xs.set j y, ?_⟩
      rw [e]
      unfold nums at hset ⊢
      rw [List.map_set]
      exact hset
    · exact ⟨xs, own_at h7 fun ad e2 hlt => Below.heap_setCell w _ _ _ (by cases e2; exact e)⟩
set_option maxRecDepth 100000 in
set_option maxHeartbeats 1600000 in
theorem sMove_any (h : Smp S w g L) (id ix x : Int) :
    Calls Tryz.prog 168 #[.pointer (some ⟨g, 0, none⟩), .int .i64 id, .int .i64 ix, .int .i64 x] w fun e w' => ∃ r : Nat, e = .returned (.int .i64 r) ∧ r < 17 ∧ SEnd S w g L w' := by
  have H : Hid (SEnd S w g L w) := ⟨h, Only.refl _ _, rfl⟩
  have hh : ∀ m : Int, (ix < 0 ∨ (0 ≤ ix ∧ m ≤ ix) ∨ (0 ≤ ix ∧ ix < m ∧ x < 0) ∨ (0 ≤ ix ∧ ix < m ∧ 0 ≤ x ∧ 64 ≤ x)) ∨ (0 ≤ ix ∧ ix < m ∧ 0 ≤ x ∧ x < 64) := fun m => by omega
  rcases id_cases L id with hi | ⟨j, s, rfl, hs⟩
  · have hc := hid (sAt_none h id hi)
    clear h hi
    rcases hh 8 with (hb | hb | hb | hb) | hb
    all_goals
      first | have d0 : decide (ix < 0) = true := by (simp; omega) | have d0 : decide (ix < 0) = false := by (simp; omega) | skip
      first | have d1 : decide (8 ≤ ix) = true := by (simp; omega) | have d1 : decide (8 ≤ ix) = false := by (simp; omega) | skip
      first | have d2 : decide (x < 0) = true := by (simp; omega) | have d2 : decide (x < 0) = false := by (simp; omega) | skip
      first | have d3 : decide (64 ≤ x) = true := by (simp; omega) | have d3 : decide (64 ≤ x) = false := by (simp; omega) | skip
      clear hb hh
      go_enter Tryz.func168, Tryz.ntmps168
      go_wp2_with fail
      refine hc.out.mono ?_
      rintro e w1 ⟨rfl, rfl⟩
      go_wp2_with fail
      go_ret
      first
        | exact ⟨1, rfl, by omega, H.out⟩
        | exact ⟨7, rfl, by omega, H.out⟩
  · have hj : j < L.length := (List.getElem?_eq_some_iff.1 hs).1
    obtain ⟨r, hr⟩ := h.at_ hj
    have hc := hid (sAt_ok hr j hj)
    obtain ⟨a0, a1, a2, a3, a4, a5⟩ := hr.six hs
    have hsm := List.mem_of_getElem? hs
    obtain ⟨_, xs, hxs⟩ := hr.srv s hsm
    have hxl : xs.length = 3 := by have := hxs.1; rw [nums_length] at this; omega
    have hci := hid (index_any (c := s.c) x (own_holdsS hxs).1 hxl (by omega))
    rcases hh 3 with (hb | hb | hb | hb) | hb
    iterate 4
      · first | have d0 : decide (ix < 0) = true := by (simp; omega) | have d0 : decide (ix < 0) = false := by (simp; omega) | skip
        first | have d1 : decide (3 ≤ ix) = true := by (simp; omega) | have d1 : decide (3 ≤ ix) = false := by (simp; omega) | skip
        first | have d2 : decide (x < 0) = true := by (simp; omega) | have d2 : decide (x < 0) = false := by (simp; omega) | skip
        first | have d3 : decide (64 ≤ x) = true := by (simp; omega) | have d3 : decide (64 ≤ x) = false := by (simp; omega) | skip
        clear hb hh h hr hs hxs hxl hj hsm
        go_enter Tryz.func168, Tryz.ntmps168
        go_wp2_with fail
        refine hc.out.mono ?_
        rintro e w1 ⟨rfl, rfl⟩
        go_wp2_with fail
        go_ret
        exact ⟨1, rfl, by omega, H.out⟩
    obtain ⟨jx, hjx⟩ : ∃ jx : Nat, ix = jx := ⟨ix.toNat, by omega⟩
    subst hjx
    have hj3 : jx < 3 := by omega
    have d0 : decide ((jx : Int) < 0) = false := by simp
    have d1 : decide ((3 : Int) ≤ (jx : Int)) = false := by simp; omega
    have d2 : decide (x < 0) = false := by simp; omega
    have d3 : decide (64 ≤ x) = false := by simp; omega
    have hu : ∃ u, w.cell? ⟨s.g, jx, none⟩ = some u := ⟨_, by rw [hxs.cellAt jx (by omega)]; exact nums_get (by omega)⟩
    obtain ⟨u, hu⟩ := hu
    have fu := hxs.frozenAt jx
    have H2 : Hid (SEnd S w g L (w.setCell ⟨s.g, jx, none⟩ (.int .i64 x))) := ⟨(hr.server hsm jx x).smp, setS (hr.srv s hsm).1 _ _ (Only.refl _ _), by simp [World.setCell]⟩
    have hc3 : 3 ≤ s.c := (own_holdsS hxs).2.1
    clear hb hh h hr hs hxs hxl hj hsm
    go_enter Tryz.func168, Tryz.ntmps168
    go_wp2_with fail
    refine hc.out.mono ?_
    rintro e w1 ⟨rfl, rfl⟩
    go_wp2_with fail
    refine hci.out.mono ?_
    rintro e w1 ⟨i, rfl, hi1, hi2, rfl⟩
    by_cases hst : s.st = 3
    · have d4 : (s.st == 3) = true := by simp [hst]
      clear hst
      by_cases hi0 : 0 ≤ i
      · by_cases hie : i = jx
        · have d5 : (i != (jx : Int)) = false := by simp [hie]
          clear hie
          go_wp2_with fail
          go_ret
          exact ⟨16, rfl, by omega, H.out⟩
        · have d5 : (i != (jx : Int)) = true := by simp [hie]
          clear hie
          go_wp2_with fail
          go_ret
          exact ⟨6, rfl, by omega, H.out⟩
      · go_wp2_with fail
        go_ret
        exact ⟨16, rfl, by omega, H.out⟩
    · have d4 : (s.st == 3) = false := by simp [hst]
      clear hst
      by_cases hi0 : 0 ≤ i
      · by_cases hie : i = jx
        · have d5 : (i != (jx : Int)) = false := by simp [hie]
          clear hie
          go_wp2_with fail
          go_ret
          exact ⟨0, rfl, by omega, H2.out⟩
        · have d5 : (i != (jx : Int)) = true := by simp [hie]
          clear hie
          go_wp2_with fail
          go_ret
          exact ⟨6, rfl, by omega, H.out⟩
      · go_wp2_with fail
        go_ret
        exact ⟨0, rfl, by omega, H2.out⟩
end
end Go.Proofs.YtopbojifllnckaaGreatDoor
