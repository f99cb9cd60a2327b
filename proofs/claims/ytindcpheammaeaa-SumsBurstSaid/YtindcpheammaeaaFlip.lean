/- A burst of at most four bytes in a sealed text is seen: plain. -/
import Derived.Test.YtindcpheammaeaaAwake
import Derived.Test.YtindcpheammaeaaLaw
namespace Go.Proofs.Ytindcpheammaeaa

theorem byteB_xor (a b : UInt8) : byteB (a ^^^ b) = byteB a ^^^ byteB b := by
  unfold byteB
  rw [UInt8.toNat_xor]
  apply BitVec.eq_of_getLsbD_eq
  intro i hi
  simp [hi]
theorem stepB_flip (c d : BitVec 32) (a b : UInt8) : stepB (c ^^^ d) (a ^^^ b) = stepB c a ^^^ stepB d b := by
  unfold stepB
  rw [byteB_xor, ← lin_eightB.add]
  congr 1
  ac_rfl
theorem runB_flip (c x : BitVec 32) (a0 a1 a2 a3 b0 b1 b2 b3 : UInt8) (hb : fourB x = [b0, b1, b2, b3]) :
    runB c [a0 ^^^ b0, a1 ^^^ b1, a2 ^^^ b2, a3 ^^^ b3] = runB c [a0, a1, a2, a3] ^^^ zerosN 4 x := by
  have h0 : zerosN 4 x = runB 0#32 [b0, b1, b2, b3] := by rw [← hb, zeros_four, BitVec.zero_xor]
  rw [h0]
  simp only [runB_cons, runB_nil]
  rw [← stepB_flip, ← stepB_flip, ← stepB_flip, ← stepB_flip, BitVec.xor_zero]
theorem run_sealed (l : List UInt8) : runB (~~~0#32) (l ++ fourB (sumB l)) = zerosN 4 (BitVec.allOnes 32) := by
  rw [runB_append, zeros_four]
  unfold sumB moreB
  congr 1
  rw [← BitVec.xor_allOnes (x := runB _ l), ← BitVec.xor_assoc, BitVec.xor_self, BitVec.zero_xor]
theorem seal_list (s : ByteArray) : (sealS s).data.toList = s.data.toList ++ fourB (sumB s.data.toList) := by
  unfold sealS fourS
  simp

/-- The text with four bytes changed by x is not one that is sealed. -/
theorem burst_no {s : ByteArray} {x : BitVec 32} {pre post : List UInt8} {a0 a1 a2 a3 b0 b1 b2 b3 : UInt8} {t : ByteArray}
    (hx : x ≠ 0#32) (hb : fourB x = [b0, b1, b2, b3]) (hs : (sealS s).data.toList = pre ++ (a0 :: a1 :: a2 :: a3 :: post))
    (ht : t.data.toList = pre ++ ((a0 ^^^ b0) :: (a1 ^^^ b1) :: (a2 ^^^ b2) :: (a3 ^^^ b3) :: post)) : ¬ fourS (sumB (hdS t).data.toList) = tlS t := by
  intro he
  have h1 := (seal_hd t).2 he
  have h2 := run_sealed (hdS t).data.toList
  rw [← seal_list, h1, ht] at h2
  have h3 := run_sealed s.data.toList
  rw [← seal_list, hs, ← h2] at h3
  have e1 : ∀ p q r u : UInt8, p :: q :: r :: u :: post = [p, q, r, u] ++ post := fun _ _ _ _ => rfl
  rw [e1, e1, runB_append, runB_append, runB_append, runB_append, runB_flip _ x _ _ _ _ _ _ _ _ hb, runB_xor] at h3
  apply hx
  apply zerosN_inj 4
  apply zerosN_inj post.length
  generalize runB (runB (runB (~~~0#32) pre) [a0, a1, a2, a3]) post = z at h3
  generalize zerosN post.length (zerosN 4 x) = y at h3
  have h4 : z ^^^ z = z ^^^ (z ^^^ y) := congrArg (fun v => z ^^^ v) h3
  rw [← BitVec.xor_assoc, BitVec.xor_self, BitVec.zero_xor] at h4
  exact h4.symm

/-- k of the four bytes are changed. -/
def flipN (l : List UInt8) (K : Nat) (x : BitVec 32) : Nat → List UInt8
  | 0 => l
  | k + 1 => (flipN l K x k).set (K + k) (l.getD (K + k) 0 ^^^ (fourB x).getD k 0)
theorem flipN_length (l : List UInt8) (K : Nat) (x : BitVec 32) (k : Nat) : (flipN l K x k).length = l.length := by
  induction k with
  | zero => rfl
  | succ k ih => rw [flipN, List.length_set, ih]
theorem flipN_far (l : List UInt8) (K : Nat) (x : BitVec 32) (k j : Nat) (h : K + k ≤ j) : (flipN l K x k)[j]? = l[j]? := by
  induction k with
  | zero => rfl
  | succ k ih => rw [flipN, List.getElem?_set_ne (by omega), ih (by omega)]
theorem flipN_four {l pre post : List UInt8} {x : BitVec 32} {a0 a1 a2 a3 b0 b1 b2 b3 : UInt8} (hb : fourB x = [b0, b1, b2, b3]) (hl : l = pre ++ (a0 :: a1 :: a2 :: a3 :: post)) :
    flipN l pre.length x 4 = pre ++ ((a0 ^^^ b0) :: (a1 ^^^ b1) :: (a2 ^^^ b2) :: (a3 ^^^ b3) :: post) := by
  subst hl
  simp [flipN, hb, List.getD]
theorem split_at (l : List UInt8) (K : Nat) (h : K + 4 ≤ l.length) : ∃ pre a0 a1 a2 a3 post, l = pre ++ (a0 :: a1 :: a2 :: a3 :: post) ∧ pre.length = K := by
  refine ⟨l.take K, l[K], l[K + 1], l[K + 2], l[K + 3], l.drop (K + 4), ?_, by rw [List.length_take]; omega⟩
  rw [List.getElem_cons_drop, List.getElem_cons_drop, List.getElem_cons_drop, List.getElem_cons_drop, List.take_append_drop]
theorem flip_no {s : ByteArray} {x : BitVec 32} {K : Nat} (hx : x ≠ 0#32) (hK : K + 4 ≤ (sealS s).size) : ¬ fourS (sumB (hdS ⟨(flipN (sealS s).data.toList K x 4).toArray⟩).data.toList) = tlS ⟨(flipN (sealS s).data.toList K x 4).toArray⟩ := by
  obtain ⟨pre, a0, a1, a2, a3, post, hl, rfl⟩ := split_at (sealS s).data.toList K (by simpa using hK)
  have hb : fourB x = [UInt8.ofNat x.toNat, UInt8.ofNat (x.toNat / 256), UInt8.ofNat (x.toNat / 65536), UInt8.ofNat (x.toNat / 16777216)] := rfl
  exact burst_no hx hb hl (flipN_four hb hl)

end Go.Proofs.Ytindcpheammaeaa
