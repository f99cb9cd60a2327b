/- What LruPlays keeps: the cache holds L, and so does the reference's variable. -/
import Derived.Test.YtehdclfmkeemgaaRef6
import Derived.Deep.CutBlock
import Derived.Deep.RegionHeld3
import Derived.Deep.DeepCutAuto
namespace Go.Proofs.Ytehdclfmkeemgaa
open Go.RowKit
attribute [local irreducible] wpQuiet
attribute [local go_sem high] run_mxI run_mnI

theorem ints_same {A A' : Option Addr} {n c n' c' B B' : Nat} {xs : List Int} {w : World} (h : Hid (IntsAt w B A xs)) (hn : xs.length = n) (h' : Hid (IntsAt w B' A' xs)) (hn' : xs.length = n') (hl : n ≤ maxLen) :
    Calls Try.prog 12 #[.slice A n c, .slice A' n' c'] w fun e w' => e = .returned (.bool true) ∧ ∃ m, w' = w.drewN m :=
  (ints_any h hn h' hn' hl).mono fun e w' ⟨he, hw⟩ => ⟨by rw [he]; simp, hw⟩
theorem IntsAt.only {w w' : World} {B : Nat} {A : Option Addr} {xs : List Int} {S : Nat → Prop} (h : IntsAt w B A xs) (ho : Only S w w') (hB : B ≤ w.heap.size) (hn : ∀ ad, A = some ad → ¬ S ad.block) : IntsAt w' B A xs := fun hx => by
  obtain ⟨ad, e, hb, hc⟩ := h hx
  exact ⟨ad, e, hb, fun j hj => (World.cell?_of_block (w := w) (by rw [block_add]; exact ho.block _ (by omega) (hn ad e))).trans (hc j hj)⟩
theorem RefAt.congr {w : World} {A : Option Addr} {c : Nat} {K K' : List Ent} (h : RefAt w A c K) (he : ecs K = ecs K') (hl : K.length = K'.length) : RefAt w A c K' := ⟨by rw [← he]; exact h.1, by rw [← hl]; exact h.2.1, h.2.2⟩
theorem putL_ghost (M : Nat) (L : List Ent) (x : Int) (v : ByteArray) (g g' : Nat) : ecs (putL M L x v g).1 = ecs (putL M L x v g').1 ∧ (putL M L x v g).1.length = (putL M L x v g').1.length ∧ (putL M L x v g).2 = (putL M L x v g').2 := by
  unfold putL
  split
  · exact ⟨rfl, rfl, rfl⟩
  · split
    · exact ⟨rfl, rfl, rfl⟩
    · exact ⟨by rw [ecs_append, ecs_append]; rfl, by simp, rfl⟩

/-- The cache (at br) holds L; the reference's variable (at block bx) K; k deeds are done. -/
structure PlayRel (w wr : World) (br bx M k : Nat) (S : Nat → Prop) (A : Option Addr) (c : Nat) (L K : List Ent) : Prop where
  cache : ∃ n, n ≤ k ∧ CacheAt wr w.heap.size br M n S L
  box : Blk wr bx 29 #[.int .i64 M, .slice A K.length c]
  ref : RefAt wr A c K
  nbx : ¬ S bx
  nrow : ∀ ad, A = some ad → ¬ S ad.block ∧ ad.block ≠ bx
  below : Below w.heap.size w wr
  hbx : w.heap.size ≤ bx

section
variable {w wr w3 : World} {br bx M k : Nat} {S : Nat → Prop} {A A' : Option Addr} {c c' : Nat} {L L' K K' : List Ent}
theorem PlayRel.slt (h : PlayRel w wr br bx M k S A c L K) : ∀ q, S q → q < wr.heap.size := fun q hq => by
  obtain ⟨n, _, hc⟩ := h.cache
  exact (hc.lt q hq).2
theorem PlayRel.below_ (h : PlayRel w wr br bx M k S A c L K) (hb : Below wr.heap.size wr w3) : PlayRel w w3 br bx M k S A c L K := by
  obtain ⟨n, hn, hc⟩ := h.cache
  exact ⟨⟨n, hn, hc.below hb⟩, h.box.below hb h.box.lt, h.ref.below hb, h.nbx, h.nrow, h.below.trans (hb.mono h.below.size), h.hbx⟩
theorem PlayRel.alloc (h : PlayRel w wr br bx M k S A c L K) (o : Obj) : PlayRel w (wr.alloc o) br bx M k S A c L K := h.below_ ((Below.refl _ _).alloc (Nat.le_refl _) o)
theorem PlayRel.drewN (h : PlayRel w wr br bx M k S A c L K) (n : Nat) : PlayRel w (wr.drewN n) br bx M k S A c L K := h.below_ (below_drewN (Below.refl _ _) n)
theorem PlayRel.same (h : PlayRel w wr br bx M k S A c L K) (hk : w3 = wr) : PlayRel w w3 br bx M k S A c L K := hk ▸ h
/-- The reference's variable has been set anew. -/
theorem PlayRel.set_ (h : PlayRel w wr br bx M k S A c L K) (hr : RefAt wr A' c' K') (hn : ∀ ad, A' = some ad → ¬ S ad.block ∧ ad.block ≠ bx) :
    PlayRel w ((wr.setCell ⟨bx, 0, none⟩ (.int .i64 M)).setCell ⟨bx, 1, none⟩ (.slice A' K'.length c')) br bx M k S A' c' L K' := by
  have hk : ∀ q, q ≠ bx → ((wr.setCell ⟨bx, 0, none⟩ (.int .i64 M)).setCell ⟨bx, 1, none⟩ (.slice A' K'.length c')).heap[q]? = wr.heap[q]? := fun q hq => (Below.heap_setCell _ _ _ _ hq).trans (Below.heap_setCell _ _ _ _ hq)
  obtain ⟨n, hn', hc⟩ := h.cache
  refine ⟨⟨n, hn', hc.keep fun q hq => hk q fun e => h.nbx (e ▸ hq)⟩, ?_, hr.keepAt (B := bx) (by simp [World.setCell]) (fun q _ hq => hk q hq) (fun ad had => (hn ad had).2), h.nbx, hn, (h.below.setCell h.hbx _).setCell h.hbx _, h.hbx⟩
  have := (h.box.set_ 0 (.int .i64 M)).set_ 1 (.slice A' K'.length c')
  exact this
theorem PlayRel.far (h : PlayRel w wr br bx M k S A c L K) (hN : NewAt wr A A') : ∀ ad, A' = some ad → ¬ S ad.block ∧ ad.block ≠ bx := fun ad had => by
  rcases hN ad had with ⟨a, ha, he⟩ | hge
  · rw [he]; exact h.nrow a ha
  · exact ⟨fun hs => by have := h.slt _ hs; omega, fun e => by have := h.box.lt; omega⟩

/-- .. and the round's deed lies at block bd. -/
structure PlayD (w wr : World) (br bx M k : Nat) (S : Nat → Prop) (A : Option Addr) (c : Nat) (L K : List Ent) (bd : Nat) (cs : Array Value) : Prop where
  rel : PlayRel w wr br bx M k S A c L K
  deed : Blk wr bd 32 cs
  nbd : ¬ S bd
variable {bd : Nat} {cs : Array Value}
theorem PlayD.below_ (h : PlayD w wr br bx M k S A c L K bd cs) (hb : Below wr.heap.size wr w3) : PlayD w w3 br bx M k S A c L K bd cs := ⟨h.rel.below_ hb, h.deed.below hb h.deed.lt, h.nbd⟩
theorem PlayD.alloc (h : PlayD w wr br bx M k S A c L K bd cs) (o : Obj) : PlayD w (wr.alloc o) br bx M k S A c L K bd cs := h.below_ ((Below.refl _ _).alloc (Nat.le_refl _) o)
theorem PlayD.ne (h : PlayD w wr br bx M k S A c L K bd cs) : bd ≠ bx := (h.deed).ne_ h.rel.box (by decide)
theorem PlayD.set_ (h : PlayD w wr br bx M k S A c L K bd cs) (hr : RefAt wr A' c' K') (hn : ∀ ad, A' = some ad → ¬ S ad.block ∧ ad.block ≠ bx) :
    PlayD w ((wr.setCell ⟨bx, 0, none⟩ (.int .i64 M)).setCell ⟨bx, 1, none⟩ (.slice A' K'.length c')) br bx M k S A' c' L K' bd cs :=
  ⟨h.rel.set_ hr hn, (h.deed.far (p := ⟨bx, 0, none⟩) h.ne _).far (p := ⟨bx, 1, none⟩) h.ne _, h.nbd⟩
theorem PlayD.e0 (h : PlayD w wr br bx M k S A c L K bd cs) : wr.cell? ⟨bx, 0, none⟩ = some (.int .i64 M) := by rw [h.rel.box.cell]; rfl
theorem PlayD.e1 (h : PlayD w wr br bx M k S A c L K bd cs) : wr.cell? ⟨bx, 1, none⟩ = some (.slice A K.length c) := by rw [h.rel.box.cell]; rfl
theorem PlayD.d0 {x y z : Value} (h : PlayD w wr br bx M k S A c L K bd #[x, y, z]) : wr.cell? ⟨bd, 0, none⟩ = some x := by rw [h.deed.cell]; rfl
theorem PlayD.d1 {x y z : Value} (h : PlayD w wr br bx M k S A c L K bd #[x, y, z]) : wr.cell? ⟨bd, 1, none⟩ = some y := by rw [h.deed.cell]; rfl
theorem PlayD.d2 {x y z : Value} (h : PlayD w wr br bx M k S A c L K bd #[x, y, z]) : wr.cell? ⟨bd, 2, none⟩ = some z := by rw [h.deed.cell]; rfl
/-- The cache has been called: it holds L', and the reference holds the same. -/
theorem PlayRel.step {n n' : Nat} (h : PlayRel w wr br bx M k S A c L K) (hs : Stepped wr w3 w.heap.size br M n' S L') (hn' : n' ≤ k + 1) (hc : CacheAt wr w.heap.size br M n S L) (he : ecs K = ecs L') (hl : K.length = L'.length) :
    ∃ S', PlayRel w w3 br bx M (k + 1) S' A c L' L' ∧ Only S wr w3 := by
  have hbel := hs.below hc
  obtain ⟨S', hc', hS, ho⟩ := hs
  have hsz := h.box.lt
  refine ⟨S', ⟨⟨n', hn', hc'⟩, ?_, ?_, ?_, ?_, h.below.trans hbel, h.hbx⟩, ho⟩
  · rw [← hl]; exact h.box.only ho h.nbx
  · have hr : RefAt w3 A c K := ⟨(h.ref.1.keepAt fun ad had hlt => ho.block _ hlt (h.nrow ad had).1).more ho.size, h.ref.2.1, fun ad had => Nat.lt_of_lt_of_le (h.ref.2.2 ad had) ho.size⟩
    exact hr.congr he hl
  · intro hx
    rcases hS _ hx with h1 | h1
    · exact h.nbx h1
    · omega
  · intro ad had
    refine ⟨fun hx => ?_, (h.nrow ad had).2⟩
    rcases hS _ hx with h1 | h1
    · exact (h.nrow ad had).1 h1
    · have := h.ref.2.2 ad had; omega
end
end Go.Proofs.Ytehdclfmkeemgaa
