/- Words for RingOrder: what went in is what came out, then what the ring holds; and the contract of Texts. -/
import Derived.Test.YtjjldcnipgjfpaaLawsA
import Derived.Test.YtjjldcnipgjfpaaDeeds
namespace Go.Proofs.Ytjjldcnipgjfpaa
open Go.RowKit
attribute [local go_sem high] run_mxI run_mnI

theorem str_ne {s s' : ByteArray} (h : ¬ s = s') : (s.toList == s'.toList) = false := by
  rw [beq_eq_false_iff_ne]
  intro e
  rw [ByteArray.toList_eq, ByteArray.toList_eq] at e
  exact h (ByteArray.ext (Array.toList_inj.1 e))
theorem holds_at {w : World} {B : Nat} {A : Option Addr} {l : List ByteArray} (h : Holds w B A (strs l)) {k : Nat} (hk : k < l.length) : ∃ ad s, A = some ad ∧ w.cell? (ad.add k) = some (.string s) ∧ l[k]? = some s := by
  obtain ⟨ad, e, _, hc⟩ := h (by rw [strs_length]; omega)
  refine ⟨ad, l[k], e, hc k _ ?_, List.getElem?_eq_getElem hk⟩
  simp [strs, hk]

set_option maxHeartbeats 800000 in
theorem texts_any {A A' : Option Addr} {c c' B B' : Nat} {x y : List ByteArray} {w : World} (hx : Hid (Holds w B A (strs x))) (hy : Hid (Holds w B' A' (strs y))) (hl : x.length ≤ 9223372036854775807) :
    Calls Try.prog 20 #[.slice A x.length c, .slice A' y.length c'] w fun e w' => e = .returned (.bool (decide (x = y))) ∧ ∃ k, w' = w.drewN k := by
  obtain ⟨r, hr⟩ : ∃ r, r = decide (x = y) := ⟨_, rfl⟩
  rw [← hr]
  have HR := hid hr
  clear hr
  by_cases hne : x.length = y.length
  · have HN := hid hne
    have hz : ((x.length : Int) != (y.length : Int)) = false := by simp [hne]
    clear hne
    go_enter Try.func20, Try.ntmps20
    go_wp2
    go_loopw [5] (fun i wr => ∃ k : Nat, k ≤ x.length ∧ i = .int .i64 k ∧ (∀ j, j < k → x[j]? = y[j]?) ∧ ∃ q, wr = w.drewN q) (fun i _ => x.length - (intOf i).toNat)
    case atStart => exact ⟨0, by omega, rfl, fun j hj => absurd hj (by omega), 0, rfl⟩
    case round =>
      obtain ⟨k, hk, rfl, hsm, q, rfl⟩ := hrel
      have HS := hid hsm
      clear hsm
      by_cases hkl : k < x.length
      · obtain ⟨ad, s, rfl, hc, hs⟩ := holds_at hx.out hkl
        obtain ⟨ad', s', rfl, hc', hs'⟩ := holds_at hy.out (k := k) (by rw [← HN.out]; exact hkl)
        have H1 := hid hs
        have H2 := hid hs'
        have hky : k < y.length := by rw [← HN.out]; exact hkl
        clear hs hs'
        by_cases he : s = s'
        · subst he
          go_wp2
          go_quiet (fail)
          go_wp2
          go_roundw
          case rel => exact ⟨k + 1, by omega, by go_num, fun j hj => by
            rcases Nat.lt_or_ge j k with h1 | h1
            · exact HS.out j h1
            · obtain rfl : j = k := by omega
              rw [H1.out, H2.out], _, rfl⟩
          case measure => simp [intOf]; omega
        · have hse := str_ne he
          go_wp2
          go_quiet (fail)
          go_wp2
          go_ret
          have : ¬ x = y := fun e => he (by have := H1.out; rw [e, H2.out] at this; exact (Option.some.inj this).symm)
          rw [HR.out]
          exact ⟨by simp [this], _, World.drewN_drewN _ _ _⟩
      · obtain rfl : k = x.length := by omega
        go_wp2
        go_ret
        have : x = y := by
          apply List.ext_getElem?
          intro i
          rcases Nat.lt_or_ge i x.length with h1 | h1
          · exact HS.out i h1
          · rw [List.getElem?_eq_none h1, List.getElem?_eq_none (by rw [← HN.out]; exact h1)]
        rw [HR.out]
        exact ⟨by simp [this], _, rfl⟩
  · have hz : ((x.length : Int) != (y.length : Int)) = true := by simp; omega
    have hne' := hid hne
    clear hne
    go_enter Try.func20, Try.ntmps20
    go_wp2
    go_ret
    have : ¬ x = y := fun e => hne'.out (by rw [e])
    rw [HR.out]
    exact ⟨by simp [this], 0, rfl⟩


theorem Holds.one (w : World) (t : TypeId) (u : Value) : Holds (w.alloc (.cells #[u] t)) (w.alloc (.cells #[u] t)).heap.size (some ⟨w.heap.size, 0, none⟩) [u] := by
  have := Holds.of_blk (Blk.new w t #[u]) 0 1 (Blk.new w t #[u]).lt
  simpa using this

/-- What RingOrder keeps from round to round: what went in is what came out, then what the ring holds. -/
structure OrdRel (w wr : World) (B br bl N : Nat) (v6 v7 : Value) (inn out L : List ByteArray) : Prop where
  ring : RingAt wr br bl N L
  own6 : wr.ownsRow B 9 1 v6 (strs inn).length (strs inn)
  own7 : wr.ownsRow B 9 1 v7 (strs out).length (strs out)
  ne : v6.ownBlock = none ∨ v6.ownBlock ≠ v7.ownBlock
  list : inn = out ++ L
  base : B ≤ wr.heap.size
  below : Below w.heap.size w wr
  br : w.heap.size ≤ br ∧ br < B
  bl : w.heap.size ≤ bl ∧ bl < B

theorem RingAt.grown {W W' : World} {br bl N B : Nat} {L : List ByteArray} {row : Option Nat} (h : RingAt W br bl N L) (hg : W.grownBy W' row) (hr : ∀ g, row = some g → B ≤ g) (h1 : br < B) (h2 : bl < B) : RingAt W' br bl N L := by
  obtain ⟨a, cs, h⟩ := h
  have hb : W'.heap[br]? = W.heap[br]? := hg.block br h.hd.lt (fun e => by have := hr br e.symm; omega)
  have hl : W'.heap[bl]? = W.heap[bl]? := hg.block bl h.row.lt (fun e => by have := hr bl e.symm; omega)
  exact ⟨a, cs, hb.trans h.hd, hl.trans h.row, h.len, h.pos, h.top, h.at_, h.fit, h.say⟩

section
variable {w wr w3 w4 : World} {B br bl N : Nat} {v6 v7 v' : Value} {inn out L L' : List ByteArray} {s : ByteArray}
theorem OrdRel.only (h : OrdRel w wr B br bl N v6 v7 inn out L) (hr : RingAt w3 br bl N L') (ho : Only (fun k => k = br ∨ k = bl) wr w3) :
    w3.ownsRow B 9 1 v6 (strs inn).length (strs inn) ∧ w3.ownsRow B 9 1 v7 (strs out).length (strs out) ∧ B ≤ w3.heap.size ∧ Below w.heap.size w w3 := by
  have hS : ∀ k, (k = br ∨ k = bl) → k < B := fun k hk => by have := h.br; have := h.bl; rcases hk with rfl | rfl <;> omega
  exact ⟨own_only h.own6 ho hS, own_only h.own7 ho hS, Nat.le_trans h.base ho.size, below_only h.below h.br.1 h.bl.1 ho⟩
/-- Nothing went in or out. -/
theorem OrdRel.same (h : OrdRel w wr B br bl N v6 v7 inn out L) (hr : RingAt w3 br bl N L) (ho : Only (fun k => k = br ∨ k = bl) wr w3) : OrdRel w w3 B br bl N v6 v7 inn out L := by
  obtain ⟨h1, h2, h3, h4⟩ := h.only hr ho
  exact ⟨hr, h1, h2, h.ne, h.list, h3, h4, h.br, h.bl⟩
theorem own_ge {e size n : Nat} {v : Value} {xs : List Value} {w : World} (h : w.ownsRow B e size v n xs) : ∀ g, v.ownBlock = some g → B ≤ g := fun g hg => (h.lt g hg).1
/-- s came out. -/
theorem OrdRel.take (h : OrdRel w wr B br bl N v6 v7 inn out (s :: L)) (hr : RingAt w3 br bl N L) (ho : Only (fun k => k = br ∨ k = bl) wr w3)
    (hown : w4.ownsRow B 9 1 v' (strs out ++ [Value.string s]).length (strs out ++ [Value.string s])) (hg : (w3.alloc (.cells #[Value.string s] 9)).grownBy w4 v7.ownBlock)
    (hat : v'.ownBlock = v7.ownBlock ∨ v'.ownBlock = some (w3.alloc (.cells #[Value.string s] 9)).heap.size) : OrdRel w w4 B br bl N v6 v' inn (out ++ [s]) L := by
  obtain ⟨h1, h2, h3, h4⟩ := h.only hr ho
  have hsz : (w3.alloc (.cells #[Value.string s] 9)).heap.size = w3.heap.size + 1 := by simp
  have hra : RingAt (w3.alloc (.cells #[Value.string s] 9)) br bl N L := hr.only (S := fun _ => False) ((Only.refl _ _).alloc _) id id
  refine ⟨hra.grown hg (own_ge h2) h.br.2 h.bl.2, (h1.alloc _).kept hg h.ne, by rw [strs_append]; exact hown, ?_, by rw [h.list]; simp, Nat.le_trans h3 (Nat.le_trans (by rw [hsz]; omega) hg.size), ?_, h.br, h.bl⟩
  · rcases hat with e | e
    · rw [e]; exact h.ne
    · rw [e]
      cases hv : v6.ownBlock with
      | none => exact .inl rfl
      | some g =>
        refine .inr fun he => ?_
        injection he with he
        have := (h1.lt g hv).2
        rw [hsz] at he
        omega
  · exact (h4.alloc h4.size _).grown hg (by rw [hsz]; have := h4.size; omega) fun k hk => by have := own_ge h2 k hk; have := h.br; omega
/-- s went in. -/
theorem OrdRel.put (h : OrdRel w wr B br bl N v6 v7 inn out L) (hr : RingAt w3 br bl N (L ++ [s])) (ho : Only (fun k => k = br ∨ k = bl) wr w3)
    (hown : w4.ownsRow B 9 1 v' (strs inn ++ [Value.string s]).length (strs inn ++ [Value.string s])) (hg : (w3.alloc (.cells #[Value.string s] 9)).grownBy w4 v6.ownBlock)
    (hat : v'.ownBlock = v6.ownBlock ∨ v'.ownBlock = some (w3.alloc (.cells #[Value.string s] 9)).heap.size) : OrdRel w w4 B br bl N v' v7 (inn ++ [s]) out (L ++ [s]) := by
  obtain ⟨h1, h2, h3, h4⟩ := h.only hr ho
  have hsz : (w3.alloc (.cells #[Value.string s] 9)).heap.size = w3.heap.size + 1 := by simp
  have hra : RingAt (w3.alloc (.cells #[Value.string s] 9)) br bl N (L ++ [s]) := hr.only (S := fun _ => False) ((Only.refl _ _).alloc _) id id
  have hne : v7.ownBlock = none ∨ v7.ownBlock ≠ v6.ownBlock := by
    rcases h.ne with e | e
    · cases hv : v7.ownBlock with
      | none => exact .inl rfl
      | some g => rw [e]; exact .inr (by simp)
    · exact .inr (fun he => e he.symm)
  refine ⟨hra.grown hg (own_ge h1) h.br.2 h.bl.2, by rw [strs_append]; exact hown, (h2.alloc _).kept hg hne, ?_, by rw [h.list]; simp, Nat.le_trans h3 (Nat.le_trans (by rw [hsz]; omega) hg.size), ?_, h.br, h.bl⟩
  · rcases hat with e | e
    · rw [e]; exact h.ne
    · rw [e]
      refine .inr fun he => ?_
      have := (h2.lt _ he.symm).2
      rw [hsz] at this
      omega
  · exact (h4.alloc h4.size _).grown hg (by rw [hsz]; have := h4.size; omega) fun k hk => by have := own_ge h1 k hk; have := h.br; omega
end

end Go.Proofs.Ytjjldcnipgjfpaa
