/- How many bits of a word are set: math/bits.OnesCount64, in plain words. -/
import Derived.Test.YtafndflddlieiaaDoorBits
namespace Go.Proofs.YtafndflddlieiaaDoor

/-- How many of the first k bits of a number are set. -/
def cntN : Nat → Nat → Nat
  | 0, _ => 0
  | k + 1, x => x % 2 + cntN k (x / 2)
theorem cntN_add (j k x : Nat) : cntN (j + k) x = cntN j x + cntN k (x / 2 ^ j) := by
  induction j generalizing x with
  | zero => simp [cntN]
  | succ j ih =>
    rw [show j + 1 + k = (j + k) + 1 by omega]
    simp only [cntN]
    rw [ih, Nat.div_div_eq_div_mul, Nat.pow_succ, Nat.mul_comm (2 ^ j) 2]
    omega
theorem cntN_mod (j x : Nat) : cntN j (x % 2 ^ j) = cntN j x := by
  induction j generalizing x with
  | zero => rfl
  | succ j ih =>
    simp only [cntN]
    have h1 : x % 2 ^ (j + 1) % 2 = x % 2 := Nat.mod_mod_of_dvd _ ⟨2 ^ j, by rw [Nat.pow_succ]; omega⟩
    have h2 : x % 2 ^ (j + 1) / 2 = (x / 2) % 2 ^ j := by
      rw [Nat.pow_succ, Nat.mul_comm (2 ^ j) 2, Nat.mod_mul_right_div_self]
    rw [h1, h2, ih]

/-! ### a number by its bytes -/
theorem and_split (c m X M : Nat) (hc : c < 256) (hm : m < 256) : (c + 256 * X) &&& (m + 256 * M) = (c &&& m) + 256 * (X &&& M) := by
  have h1 : ((c + 256 * X) &&& (m + 256 * M)) % 256 = c &&& m := by
    have := Nat.and_mod_two_pow (a := c + 256 * X) (b := m + 256 * M) (n := 8)
    rw [show (2 : Nat) ^ 8 = 256 by rfl] at this
    rw [this, show (c + 256 * X) % 256 = c by omega, show (m + 256 * M) % 256 = m by omega]
  have h2 : ((c + 256 * X) &&& (m + 256 * M)) / 256 = X &&& M := by
    have := Nat.shiftRight_and_distrib (a := c + 256 * X) (b := m + 256 * M) (i := 8)
    rw [Nat.shiftRight_eq_div_pow, Nat.shiftRight_eq_div_pow, Nat.shiftRight_eq_div_pow, show (2 : Nat) ^ 8 = 256 by rfl] at this
    rw [this, show (c + 256 * X) / 256 = X by omega, show (m + 256 * M) / 256 = M by omega]
  omega
theorem low_and (c m k : Nat) (hm : m < 2 ^ k) : c &&& m = (c % 2 ^ k) &&& m := by
  have h := Nat.and_mod_two_pow (a := c) (b := m) (n := k)
  rw [Nat.mod_eq_of_lt hm, Nat.mod_eq_of_lt (Nat.lt_of_le_of_lt Nat.and_le_right hm)] at h
  exact h
def mk (m : Nat) : Nat → Nat
  | 0 => 0
  | k + 1 => m + 256 * mk m k
def S1 (k X : Nat) : Nat := ((X / 2) &&& mk 85 k) + (X &&& mk 85 k)
def S2 (k X : Nat) : Nat := ((X / 4) &&& mk 51 k) + (X &&& mk 51 k)
def S3 (k X : Nat) : Nat := (X / 16 + X) &&& mk 15 k
def s1 (c : Nat) : Nat := ((c / 2) &&& 85) + (c &&& 85)
def s2 (c : Nat) : Nat := ((c / 4) &&& 51) + (c &&& 51)
def s3 (c : Nat) : Nat := (c / 16 + c) &&& 15
theorem S1_step (k c X : Nat) (hc : c < 256) : S1 (k + 1) (c + 256 * X) = s1 c + 256 * S1 k X := by
  unfold S1 s1
  simp only [mk]
  rw [and_split c 85 X _ hc (by omega), show (c + 256 * X) / 2 = (c / 2 + 128 * (X % 2)) + 256 * (X / 2) by omega, and_split _ 85 _ _ (by omega) (by omega),
    low_and (c / 2 + 128 * (X % 2)) 85 7 (by omega), show (c / 2 + 128 * (X % 2)) % 2 ^ 7 = c / 2 by omega]
  omega
theorem S2_step (k c X : Nat) (hc : c < 256) : S2 (k + 1) (c + 256 * X) = s2 c + 256 * S2 k X := by
  unfold S2 s2
  simp only [mk]
  rw [and_split c 51 X _ hc (by omega), show (c + 256 * X) / 4 = (c / 4 + 64 * (X % 4)) + 256 * (X / 4) by omega, and_split _ 51 _ _ (by omega) (by omega),
    low_and (c / 4 + 64 * (X % 4)) 51 6 (by omega), show (c / 4 + 64 * (X % 4)) % 2 ^ 6 = c / 4 by omega]
  omega
theorem S3_step (k c X : Nat) (h1 : c % 16 ≤ 4) (h2 : c / 16 ≤ 4) (h3 : X % 16 ≤ 4) : S3 (k + 1) (c + 256 * X) = s3 c + 256 * S3 k X := by
  unfold S3 s3
  simp only [mk]
  rw [show (c + 256 * X) / 16 + (c + 256 * X) = (c / 16 + 16 * (X % 16) + c) + 256 * (X / 16 + X) by omega, and_split _ 15 _ _ (by omega) (by omega),
    low_and (c / 16 + 16 * (X % 16) + c) 15 4 (by omega), low_and (c / 16 + c) 15 4 (by omega), show (c / 16 + 16 * (X % 16) + c) % 2 ^ 4 = (c / 16 + c) % 2 ^ 4 by omega]
set_option maxRecDepth 100000 in
theorem byte_pop : ∀ c : Fin 256, s1 c.val < 256 ∧ s2 (s1 c.val) < 256 ∧ s2 (s1 c.val) % 16 ≤ 4 ∧ s2 (s1 c.val) / 16 ≤ 4 ∧ s3 (s2 (s1 c.val)) = cntN 8 c.val ∧ cntN 8 c.val ≤ 8 := by decide +kernel
/-- The counts of the k bytes, byte by byte. -/
def PK : Nat → Nat → Nat
  | 0, _ => 0
  | k + 1, X => cntN 8 (X % 256) + 256 * PK k (X / 256)
theorem low_nib (k X : Nat) : S2 k (S1 k X) % 16 ≤ 4 := by
  cases k with
  | zero => simp [S2, mk]
  | succ k =>
    have hc := byte_pop ⟨X % 256, by omega⟩
    simp only at hc
    rw [show X = X % 256 + 256 * (X / 256) by omega, S1_step _ _ _ (by omega), S2_step _ _ _ (by omega)]
    omega
theorem all_pop (k X : Nat) : S3 k (S2 k (S1 k X)) = PK k X := by
  induction k generalizing X with
  | zero => simp [S3, mk, PK]
  | succ k ih =>
    have hc := byte_pop ⟨X % 256, by omega⟩
    simp only at hc
    have hx : X = X % 256 + 256 * (X / 256) := by omega
    have e : S3 (k + 1) (S2 (k + 1) (S1 (k + 1) (X % 256 + 256 * (X / 256)))) = cntN 8 (X % 256) + 256 * PK k (X / 256) := by
      rw [S1_step _ _ _ (by omega), S2_step _ _ _ (by omega), S3_step _ _ _ (by omega) (by omega) (low_nib _ _), ih]
      omega
    rw [← hx] at e
    exact e
theorem cnt_le8 (X : Nat) : cntN 8 (X % 256) ≤ 8 := (byte_pop ⟨X % 256, by omega⟩).2.2.2.2.2
theorem cnt_bytes (X : Nat) : cntN 64 X = cntN 8 (X % 256) + (cntN 8 (X / 256 % 256) + (cntN 8 (X / 256 / 256 % 256) + (cntN 8 (X / 256 / 256 / 256 % 256) + (cntN 8 (X / 256 / 256 / 256 / 256 % 256) +
    (cntN 8 (X / 256 / 256 / 256 / 256 / 256 % 256) + (cntN 8 (X / 256 / 256 / 256 / 256 / 256 / 256 % 256) + cntN 8 (X / 256 / 256 / 256 / 256 / 256 / 256 / 256 % 256))))))) := by
  have h : ∀ k Y, cntN (8 + k) Y = cntN 8 (Y % 256) + cntN k (Y / 256) := fun k Y => by rw [cntN_add, ← cntN_mod 8 Y]
  rw [h 56, h 48, h 40, h 32, h 24, h 16, h 8]
  rw [← cntN_mod 8 (X / 256 / 256 / 256 / 256 / 256 / 256 / 256)]
/-- What is left when the bytes' counts are added up in the lowest byte. -/
theorem fold_pop (X x4 x5 x6 : Nat) (h4 : x4 = PK 8 X + PK 8 X / 256) (h5 : x5 = x4 + x4 / 65536) (h6 : x6 = x5 + x5 / 4294967296) : x6 % 128 = cntN 64 X ∧ x6 < 18446744073709551616 := by
  rw [cnt_bytes]
  simp only [PK] at h4
  have a0 := cnt_le8 X
  have a1 := cnt_le8 (X / 256)
  have a2 := cnt_le8 (X / 256 / 256)
  have a3 := cnt_le8 (X / 256 / 256 / 256)
  have a4 := cnt_le8 (X / 256 / 256 / 256 / 256)
  have a5 := cnt_le8 (X / 256 / 256 / 256 / 256 / 256)
  have a6 := cnt_le8 (X / 256 / 256 / 256 / 256 / 256 / 256)
  have a7 := cnt_le8 (X / 256 / 256 / 256 / 256 / 256 / 256 / 256)
  generalize cntN 8 (X % 256) = p0 at *
  generalize cntN 8 (X / 256 % 256) = p1 at *
  generalize cntN 8 (X / 256 / 256 % 256) = p2 at *
  generalize cntN 8 (X / 256 / 256 / 256 % 256) = p3 at *
  generalize cntN 8 (X / 256 / 256 / 256 / 256 % 256) = p4 at *
  generalize cntN 8 (X / 256 / 256 / 256 / 256 / 256 % 256) = p5 at *
  generalize cntN 8 (X / 256 / 256 / 256 / 256 / 256 / 256 % 256) = p6 at *
  generalize cntN 8 (X / 256 / 256 / 256 / 256 / 256 / 256 / 256 % 256) = p7 at *
  have e4 : x4 = (p0 + p1) + 256 * (p1 + p2) + 65536 * (p2 + p3) + 16777216 * (p3 + p4) + 4294967296 * (p4 + p5) + 1099511627776 * (p5 + p6) + 281474976710656 * (p6 + p7) + 72057594037927936 * p7 := by omega
  have e5 : x5 = (p0 + p1 + p2 + p3) + 256 * (p1 + p2 + p3 + p4) + 65536 * (p2 + p3 + p4 + p5) + 16777216 * (p3 + p4 + p5 + p6) + 4294967296 * (p4 + p5 + p6 + p7) + 1099511627776 * (p5 + p6 + p7) + 281474976710656 * (p6 + p7) + 72057594037927936 * p7 := by
    clear h4
    omega
  have e6 : x5 / 4294967296 = (p4 + p5 + p6 + p7) + 256 * (p5 + p6 + p7) + 65536 * (p6 + p7) + 16777216 * p7 := by
    clear h4 e4 h5 h6
    omega
  clear h4 e4 h5
  rw [e6] at h6
  omega
end Go.Proofs.YtafndflddlieiaaDoor
