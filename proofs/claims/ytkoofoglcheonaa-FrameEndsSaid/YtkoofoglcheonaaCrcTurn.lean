/- Plain law: bytes in which bits are turned have another sum. -/
import Derived.Test.YtkoofoglcheonaaCrcOrd
namespace Go.Proofs.Ytkoofoglcheonaa.Crc
set_option linter.unusedVariables false
set_option linter.unusedSimpArgs false

/-- Bytes as one number, the first one lowest. -/
def LE : List UInt8 → Nat
  | [] => 0
  | b :: r => b.toNat + 256 * LE r
theorem mul_xor (n a b : Nat) : 2 ^ n * (a ^^^ b) = (2 ^ n * a) ^^^ (2 ^ n * b) := by
  have h := Nat.shiftLeft_xor_distrib (a := a) (b := b) (i := n)
  simp only [Nat.shiftLeft_eq] at h
  rw [Nat.mul_comm, h, Nat.mul_comm a, Nat.mul_comm b]
theorem LE_cons (b : UInt8) (r : List UInt8) : LE (b :: r) = b.toNat ^^^ (2 ^ 8 * LE r) := by
  have h := add_eq_xor 8 (LE r) b.toNat b.toNat_lt
  rw [Nat.xor_comm, ← h]
  show b.toNat + 256 * LE r = _
  omega
theorem run_eq (bs : List UInt8) : ∀ r, run r bs = It (8 * bs.length) (r ^^^ LE bs) := by
  induction bs with
  | nil => intro r; simp [run, LE, It]
  | cons b bs ih =>
    intro r
    show run (feed r b.toNat) bs = _
    rw [ih, LE_cons, ← Nat.xor_assoc, List.length_cons, Nat.mul_add, Nat.add_comm, It_add, It_xor 8, It_pow_mul]
    rfl
theorem sum_same {a b : List UInt8} (hl : a.length = b.length) (h : sum a = sum b) : It (8 * b.length) (LE a ^^^ LE b) = 0 := by
  rw [sum_eq, sum_eq, turn_eq, turn_eq] at h
  have h2 : run ones a = run ones b := by
    have := congrArg (fun x => ones ^^^ x) h
    simp only [xor_twice] at this
    exact this
  rw [run_eq, run_eq, hl] at h2
  have h3 : It (8 * b.length) ((ones ^^^ LE a) ^^^ (ones ^^^ LE b)) = 0 := by rw [It_xor, h2, Nat.xor_self]
  have h4 : (ones ^^^ LE a) ^^^ (ones ^^^ LE b) = LE a ^^^ LE b := by
    rw [Nat.xor_comm ones (LE a), Nat.xor_assoc, xor_twice]
  rw [h4] at h3
  exact h3
def turnB (b : UInt8) (j : Nat) : UInt8 := UInt8.ofNat (b.toNat ^^^ 2 ^ j)
theorem turnB_toNat (b : UInt8) {j : Nat} (hj : j < 8) : (turnB b j).toNat = b.toNat ^^^ 2 ^ j := by
  have h : b.toNat ^^^ 2 ^ j < 2 ^ 8 := Nat.xor_lt_two_pow b.toNat_lt (Nat.pow_lt_pow_right (by omega) hj)
  unfold turnB
  rw [UInt8.toNat_ofNat']
  exact Nat.mod_eq_of_lt h
def turnAt (bs : List UInt8) (k : Nat) : List UInt8 := bs.set (k / 8) (turnB (bs.getD (k / 8) 0) (k % 8))
theorem turnAt_length (bs : List UInt8) (k : Nat) : (turnAt bs k).length = bs.length := List.length_set
theorem LE_set (x : UInt8) : ∀ (bs : List UInt8) (i : Nat) (b : UInt8), bs[i]? = some b → LE (bs.set i x) = LE bs ^^^ (2 ^ (8 * i) * (b.toNat ^^^ x.toNat))
  | [], i, b, h => by simp at h
  | c :: bs, 0, b, h => by
    simp at h
    subst h
    rw [List.set_cons_zero, LE_cons, LE_cons, Nat.mul_zero, Nat.pow_zero, Nat.one_mul]
    rw [Nat.xor_comm c.toNat, Nat.xor_assoc, xor_twice, Nat.xor_comm]
  | c :: bs, i + 1, b, h => by
    rw [List.set_cons_succ, LE_cons, LE_cons, LE_set x bs i b (by simpa using h), mul_xor, ← Nat.xor_assoc, Nat.mul_add, Nat.pow_add, Nat.mul_one, Nat.mul_comm (2 ^ (8 * i)) (2 ^ 8), Nat.mul_assoc]
theorem LE_turnAt {bs : List UInt8} {k : Nat} (hk : k < 8 * bs.length) : LE (turnAt bs k) = LE bs ^^^ 2 ^ k := by
  have hl : k / 8 < bs.length := by omega
  unfold turnAt
  rw [LE_set _ bs (k / 8) bs[k / 8] (List.getElem?_eq_getElem hl), turnB_toNat _ (by omega), List.getD_eq_getElem?_getD, List.getElem?_eq_getElem hl, Option.getD_some, xor_twice, ← Nat.pow_add]
  have : 8 * (k / 8) + k % 8 = k := by omega
  rw [this]
theorem xor_cancel (a b : Nat) : (a ^^^ b) ^^^ a = b := by rw [Nat.xor_comm, ← Nat.xor_assoc, Nat.xor_self, Nat.zero_xor]
/-- What differs by some bits from a place on, fewer than 32 of them, has another sum. -/
theorem sum_burst {a b : List UInt8} {k D : Nat} (hl : a.length = b.length) (hk : k ≤ 8 * b.length) (hD : D < 2 ^ 32) (h0 : D ≠ 0) (h : LE a = LE b ^^^ (2 ^ k * D)) : sum a ≠ sum b := by
  intro e
  have h1 := sum_same hl e
  rw [h, xor_cancel] at h1
  have h2 : 8 * b.length = k + (8 * b.length - k) := by omega
  rw [h2, It_add, It_pow_mul] at h1
  exact It_ne _ hD h0 h1
theorem sum_one {b : List UInt8} {k : Nat} (hk : k < 8 * b.length) : sum (turnAt b k) ≠ sum b :=
  sum_burst (k := k) (D := 1) (turnAt_length _ _) (by omega) (by decide) (by decide) (by rw [LE_turnAt hk, Nat.mul_one])
theorem sum_two {b : List UInt8} {k m : Nat} (hkm : k < m) (hfar : m - k ≤ 32767) (hm : m < 8 * b.length) : sum (turnAt (turnAt b k) m) ≠ sum b := by
  intro e
  have h1 := sum_same (by rw [turnAt_length, turnAt_length]) e
  rw [LE_turnAt (by rw [turnAt_length]; exact hm), LE_turnAt (by omega), Nat.xor_assoc (LE b), xor_cancel] at h1
  have h2 : 8 * b.length = k + ((m - k) + (8 * b.length - m)) := by omega
  have h3 : (2 : Nat) ^ m = 2 ^ k * 2 ^ (m - k) := by rw [← Nat.pow_add]; congr 1; omega
  rw [h2, It_add, It_add, It_xor k, h3, It_pow_mul] at h1
  have h4 : It k (2 ^ k) = 1 := by have := It_pow_mul k 1; rwa [Nat.mul_one] at this
  have h5 : It (m - k) (2 ^ (m - k)) = 1 := by have := It_pow_mul (m - k) 1; rwa [Nat.mul_one] at this
  rw [h4, It_xor, h5] at h1
  have h6 := It_lt (m - k) (r := 1) (by decide)
  refine It_ne _ (Nat.xor_lt_two_pow h6 (by decide)) (fun h7 => ?_) h1
  exact It_one_ne (m - k) (by omega) hfar (xor_zero_iff.1 h7)
/-- Bits turned from place k on, as many as the pattern says, up to i of them. -/
def burstAt (bs : List UInt8) (k B : Nat) : Nat → List UInt8
  | 0 => bs
  | i + 1 => if B / 2 ^ i % 2 = 1 then turnAt (burstAt bs k B i) (k + i) else burstAt bs k B i
theorem burstAt_length (bs : List UInt8) (k B : Nat) : ∀ i, (burstAt bs k B i).length = bs.length
  | 0 => rfl
  | i + 1 => by
    unfold burstAt
    split
    · rw [turnAt_length, burstAt_length bs k B i]
    · exact burstAt_length bs k B i
theorem mod_succ (B i : Nat) : B % 2 ^ (i + 1) = B % 2 ^ i + 2 ^ i * (B / 2 ^ i % 2) := by rw [Nat.pow_succ, Nat.mod_mul]
theorem LE_burstAt (bs : List UInt8) (k B : Nat) : ∀ i, k + i ≤ 8 * bs.length → LE (burstAt bs k B i) = LE bs ^^^ (2 ^ k * (B % 2 ^ i))
  | 0, _ => by simp [burstAt, Nat.mod_one]
  | i + 1, h => by
    have ih := LE_burstAt bs k B i (by omega)
    have h1 : B % 2 ^ (i + 1) = (2 ^ i * (B / 2 ^ i % 2)) ^^^ (B % 2 ^ i) := by
      rw [← add_eq_xor i _ _ (Nat.mod_lt _ (Nat.two_pow_pos i)), mod_succ]
      omega
    unfold burstAt
    split
    · rename_i hb
      rw [LE_turnAt (by rw [burstAt_length]; omega), ih, h1, hb, Nat.mul_one, mul_xor, ← Nat.pow_add, Nat.xor_assoc, Nat.xor_comm (2 ^ (k + i))]
    · rename_i hb
      have hb0 : B / 2 ^ i % 2 = 0 := by omega
      rw [ih, h1, hb0, Nat.mul_zero, Nat.zero_xor]
theorem sum_burstAt {bs : List UInt8} {k B i : Nat} (hi : i ≤ 32) (hk : k + i ≤ 8 * bs.length) (h0 : B % 2 ^ i ≠ 0) : sum (burstAt bs k B i) ≠ sum bs :=
  sum_burst (k := k) (D := B % 2 ^ i) (burstAt_length _ _ _ _) (by omega) (Nat.lt_of_lt_of_le (Nat.mod_lt _ (Nat.two_pow_pos i)) (Nat.pow_le_pow_right (by omega) hi)) h0 (LE_burstAt bs k B i hk)
theorem turnAt_mk {bs : List UInt8} {k : Nat} {y : UInt8} (h : bs.getD (k / 8) 0 = y) : bs.set (k / 8) (turnB y (k % 8)) = turnAt bs k := by rw [← h]; rfl
end Go.Proofs.Ytkoofoglcheonaa.Crc
