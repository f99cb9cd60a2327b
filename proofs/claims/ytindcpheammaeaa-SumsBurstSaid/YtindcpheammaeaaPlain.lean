/- The sum of 32 bits, in plain words: a register of 32 bits, one bit, one byte, a text; no program in sight. -/
namespace Go.Proofs.Ytindcpheammaeaa

/-- One bit: shifted right, the polynomial put in where a one went out. -/
def bit1 (c : BitVec 32) : BitVec 32 := (c >>> 1) ^^^ (3988292384#32 &&& -(c &&& 1#32))
def bitsN : Nat → BitVec 32 → BitVec 32
  | 0, c => c
  | n + 1, c => bitsN n (bit1 c)
def eightB (c : BitVec 32) : BitVec 32 := bitsN 8 c
def byteB (b : UInt8) : BitVec 32 := BitVec.ofNat 32 b.toNat
def stepB (c : BitVec 32) (b : UInt8) : BitVec 32 := eightB (c ^^^ byteB b)
/-- The register behind a text. -/
def runB (c : BitVec 32) (l : List UInt8) : BitVec 32 := l.foldl stepB c
def moreB (s : BitVec 32) (l : List UInt8) : BitVec 32 := ~~~ (runB (~~~ s) l)
def sumB (l : List UInt8) : BitVec 32 := moreB 0#32 l
def fourB (n : BitVec 32) : List UInt8 := [UInt8.ofNat n.toNat, UInt8.ofNat (n.toNat / 256), UInt8.ofNat (n.toNat / 65536), UInt8.ofNat (n.toNat / 16777216)]

theorem runB_nil (c : BitVec 32) : runB c [] = c := rfl
theorem runB_cons (c : BitVec 32) (b : UInt8) (l : List UInt8) : runB c (b :: l) = runB (stepB c b) l := rfl
theorem runB_append (c : BitVec 32) (l m : List UInt8) : runB c (l ++ m) = runB (runB c l) m := by unfold runB; rw [List.foldl_append]
theorem runB_take (c : BitVec 32) (l : List UInt8) (k : Nat) (h : k < l.length) : runB c (l.take (k + 1)) = stepB (runB c (l.take k)) l[k] := by
  rw [List.take_succ_eq_append_getElem h, runB_append]; rfl

end Go.Proofs.Ytindcpheammaeaa
