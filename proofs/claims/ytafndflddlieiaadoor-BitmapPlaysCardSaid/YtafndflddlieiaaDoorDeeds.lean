/- A slice of deeds (three numbers) that comes in, as a list. -/
import Derived.Test.YtafndflddlieiaaDoorRows
import Derived.Test.YtafndflddlieiaaDoorAwake
import Derived.Lib.SmallJoins
import Derived.Deep.Strs
namespace Go.Proofs.YtafndflddlieiaaDoor
open Go.RowKit

structure Deed where
  kind : Int
  n : Int
  len : Int
instance : Inhabited Deed := ⟨⟨0, 0, 0⟩⟩

/-- A slice at A reads the deeds l (three cells an element), and lies below block B. -/
def DeedsAt (w : World) (B : Nat) (A : Option Addr) (l : List Deed) : Prop :=
  (∀ d ∈ l, (Lit.int .i64 d.n).wf = true ∧ (Lit.int .i64 d.len).wf = true) ∧ (0 < l.length → ∃ ad, A = some ad ∧ ad.block < B ∧ ∀ i, i < l.length → w.cell? (ad.add (i * 3)) = some (.int .i64 (l.getD i default).kind) ∧
    w.cell? ⟨(ad.add (i * 3)).block, (ad.add (i * 3)).off + 1, none⟩ = some (.int .i64 (l.getD i default).n) ∧ w.cell? ⟨(ad.add (i * 3)).block, (ad.add (i * 3)).off + 2, none⟩ = some (.int .i64 (l.getD i default).len))

theorem DeedsAt.keep {w w' : World} {B : Nat} {A : Option Addr} {l : List Deed} (h : DeedsAt w B A l) (hk : ∀ k, k < B → w'.heap[k]? = w.heap[k]?) : DeedsAt w' B A l := ⟨h.1, fun hn => by
  obtain ⟨ad, e, hb, hc⟩ := h.2 hn
  have hk' : ∀ p : Addr, p.block = ad.block → w'.cell? p = w.cell? p := fun p hp => World.cell?_of_block (w := w) (hk _ (by rw [hp]; exact hb))
  refine ⟨ad, e, hb, fun i hi => ?_⟩
  obtain ⟨h0, h1, h2⟩ := hc i hi
  exact ⟨(hk' (ad.add (i * 3)) (block_add _ _)).trans h0, (hk' ⟨(ad.add (i * 3)).block, _, none⟩ (block_add ad (i * 3))).trans h1, (hk' ⟨(ad.add (i * 3)).block, _, none⟩ (block_add ad (i * 3))).trans h2⟩⟩
theorem DeedsAt.below {w w' : World} {B : Nat} {A : Option Addr} {l : List Deed} (h : DeedsAt w B A l) (hb : Below B w w') : DeedsAt w' B A l := h.keep fun k hk => hb.block k hk

theorem add_fld (ad : Addr) (m j : Nat) (hj : 0 < j) : (ad.add m).add j = ⟨(ad.add m).block, (ad.add m).off + j, none⟩ := by
  generalize ad.add m = x
  unfold Addr.add
  rw [if_neg (by omega)]

section
variable {H : Type} {enc : TypeId × Value → H} {w : World}
theorem open_deeds {sp : Nat → Bool} {A : Option Addr} {n c : Nat} {d : DataW H} {p : List MemPlace} (h : DataW.Trod enc Tryd.prog w 0 sp true 22 (.slice A n c) d p) :
    ∃ l : List Deed, l.length = n ∧ n ≤ maxLen ∧ DeedsAt w w.heap.size A l := by
  obtain ⟨fuel, hf⟩ := h
  rcases Go.Deep.open_slice Tryd.underlying22 hf with ⟨hcs, _⟩ | ⟨a, len, cap, m, n', D, Pl, hcs, _, hl, hm, hmm, _, hi⟩
  · simp only [Value.cells] at hcs
    have : A = none ∧ n = 0 ∧ c = 0 := by simpa using hcs
    obtain ⟨rfl, rfl, rfl⟩ := this
    exact ⟨[], rfl, by simp, by simp, fun hn => absurd hn (by simp)⟩
  · have hA : A = some a ∧ n = len ∧ c = cap := by simpa [Value.cells] using hcs
    obtain ⟨rfl, rfl, rfl⟩ := hA
    have hC : Tryd.prog.cellsOf 28 = 3 := by kernel_rfl
    have key : ∀ i, i < n → ∃ x : Deed, w.cell? (a.add (i * 3)) = some (.int .i64 x.kind) ∧ w.cell? ⟨(a.add (i * 3)).block, (a.add (i * 3)).off + 1, none⟩ = some (.int .i64 x.n) ∧
        w.cell? ⟨(a.add (i * 3)).block, (a.add (i * 3)).off + 2, none⟩ = some (.int .i64 x.len) ∧ (Lit.int .i64 x.n).wf = true ∧ (Lit.int .i64 x.len).wf = true := by
      intro i hin
      obtain ⟨cs', hc, ht⟩ := hi i (by split at hmm <;> omega)
      rw [hC] at hc
      obtain ⟨_, hlen, hat⟩ := World.cells?_some hc
      obtain ⟨y0, y1, y2, k, _, _, h0, h1, h2⟩ := Go.Deep.trod_struct3 Tryd.underlying28 ht
      match cs', hlen with
      | [c0, c1, c2], _ =>
        have e3 : Tryd.prog.cellsOf 3 = 1 := by kernel_rfl
        obtain ⟨x0, f0, _, _⟩ := DataW.trod_int Tryd.underlying3 (by simpa [e3] using h0)
        obtain ⟨x1, f1, _, wf1⟩ := DataW.trod_int Tryd.underlying3 (by simpa [e3] using h1)
        obtain ⟨x2, f2, _, wf2⟩ := DataW.trod_int Tryd.underlying3 (by simpa [e3] using h2)
        simp only [List.cons.injEq, and_true] at f0 f1 f2
        subst f0 f1 f2
        refine ⟨⟨x0, x1, x2⟩, ?_, ?_, ?_, wf1, wf2⟩
        · have := hat 0 (by omega)
          simpa [Addr.add] using this
        · rw [← add_fld a (i * 3) 1 (by omega)]
          simpa using hat 1 (by omega)
        · rw [← add_fld a (i * 3) 2 (by omega)]
          simpa using hat 2 (by omega)
    obtain ⟨f, hfx⟩ := Go.Deep.choose_lt key
    refine ⟨(List.range n).map f, by simp, by omega, ?_, fun hn => ⟨a, rfl, ?_, fun i hin => ?_⟩⟩
    · intro d hd
      obtain ⟨i, hi, rfl⟩ := List.mem_map.1 hd
      exact (hfx i (by simpa using hi)).2.2.2
    · have hn' : 0 < n := by simpa using hn
      have := World.block_lt_of_cell? w _ (hfx 0 hn').1
      rwa [block_add] at this
    · have hin' : i < n := by simpa using hin
      have := hfx i hin'
      simpa [List.getD_eq_getElem?_getD, hin'] using (⟨this.1, this.2.1, this.2.2.1⟩ : _ ∧ _ ∧ _)
end

end Go.Proofs.YtafndflddlieiaaDoor
