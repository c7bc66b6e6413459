/- A part of the proofs over package sum and its reference: the walks, or what they lean on. -/
namespace Go.Proofs.Ytkoofoglcheonaa.Crc
set_option linter.unusedVariables false
set_option linter.unusedSimpArgs false
theorem xor_zero_iff {a b : Nat} : a ^^^ b = 0 ↔ a = b := by
  constructor
  · intro h
    have : a ^^^ b ^^^ b = b := by rw [h, Nat.zero_xor]
    rwa [Nat.xor_assoc, Nat.xor_self, Nat.xor_zero] at this
  · rintro rfl
    exact Nat.xor_self _
/-- One bit step of the register. -/
def S (r : Nat) : Nat := (r >>> 1) ^^^ (if r % 2 = 1 then 0xEDB88320 else 0)
def It : Nat → Nat → Nat
  | 0, r => r
  | n + 1, r => It n (S r)
theorem It_zero (r : Nat) : It 0 r = r := rfl
theorem It_succ (n r : Nat) : It (n + 1) r = It n (S r) := rfl
theorem It_add (m n r : Nat) : It (m + n) r = It n (It m r) := by
  induction m generalizing r with
  | zero => simp [It]
  | succ m ih => rw [Nat.succ_add]; simp only [It]; exact ih _

theorem xor_mod_two (a b : Nat) : (a ^^^ b) % 2 = (a % 2 + b % 2) % 2 := by
  have h1 := Nat.testBit_xor a b 0
  simp only [Nat.testBit_zero] at h1
  have : (decide ((a ^^^ b) % 2 = 1)) = (decide (a % 2 = 1) ^^ decide (b % 2 = 1)) := h1
  rcases Nat.mod_two_eq_zero_or_one a with ha | ha <;> rcases Nat.mod_two_eq_zero_or_one b with hb | hb <;> rcases Nat.mod_two_eq_zero_or_one (a ^^^ b) with hc | hc <;> simp_all
theorem S_xor (a b : Nat) : S (a ^^^ b) = S a ^^^ S b := by
  unfold S
  rw [Nat.shiftRight_xor_distrib]
  have h := xor_mod_two a b
  rw [h]
  rcases Nat.mod_two_eq_zero_or_one a with ha | ha <;> rcases Nat.mod_two_eq_zero_or_one b with hb | hb <;> simp [ha, hb]
  · exact Nat.xor_assoc _ _ _
  · rw [Nat.xor_assoc, Nat.xor_assoc, Nat.xor_comm (b >>> 1)]
  · rw [Nat.xor_assoc, Nat.xor_comm 3988292384 (_ ^^^ _), Nat.xor_assoc, Nat.xor_self, Nat.xor_zero]

theorem It_xor (n a b : Nat) : It n (a ^^^ b) = It n a ^^^ It n b := by
  induction n generalizing a b with
  | zero => rfl
  | succ n ih => simp only [It, S_xor, ih]

theorem S_two_mul (x : Nat) : S (2 * x) = x := by
  unfold S
  simp [Nat.shiftRight_eq_div_pow]
theorem It_pow_mul (n x : Nat) : It n (2 ^ n * x) = x := by
  induction n generalizing x with
  | zero => simp [It]
  | succ n ih => rw [It_succ, Nat.pow_succ, Nat.mul_comm (2 ^ n) 2, Nat.mul_assoc, S_two_mul, ih]
theorem S_zero : S 0 = 0 := rfl
theorem It_zero' (n : Nat) : It n 0 = 0 := by
  induction n with
  | zero => rfl
  | succ n ih => simpa [It, S_zero] using ih
theorem S_lt {r : Nat} (h : r < 2 ^ 32) : S r < 2 ^ 32 := by
  unfold S
  have h1 : r >>> 1 < 2 ^ 32 := by rw [Nat.shiftRight_eq_div_pow]; omega
  exact Nat.xor_lt_two_pow h1 (by split <;> omega)
theorem It_lt (n : Nat) {r : Nat} (h : r < 2 ^ 32) : It n r < 2 ^ 32 := by
  induction n generalizing r with
  | zero => exact h
  | succ n ih => exact ih (S_lt h)
theorem S_ne {r : Nat} (h : r < 2 ^ 32) (h0 : r ≠ 0) : S r ≠ 0 := by
  unfold S
  intro e
  have e := xor_zero_iff.1 e
  rw [Nat.shiftRight_eq_div_pow] at e
  split at e <;> omega
theorem It_ne (n : Nat) {r : Nat} (h : r < 2 ^ 32) (h0 : r ≠ 0) : It n r ≠ 0 := by
  induction n generalizing r with
  | zero => exact h0
  | succ n ih => exact ih (S_lt h) (S_ne h h0)
theorem It_inj (n : Nat) {a b : Nat} (ha : a < 2 ^ 32) (hb : b < 2 ^ 32) (h : It n a = It n b) : a = b := by
  have h1 : It n (a ^^^ b) = 0 := by rw [It_xor, h, Nat.xor_self]
  have h2 : a ^^^ b < 2 ^ 32 := Nat.xor_lt_two_pow ha hb
  by_cases h3 : a ^^^ b = 0
  · exact xor_zero_iff.1 h3
  · exact absurd h1 (It_ne n h2 h3)

/-- The order of one is above 32767: reckoned. -/
def noOne : Nat → Nat → Bool
  | 0, _ => true
  | n + 1, r => match S r with
    | 0 => false
    | k + 1 => if k = 0 then false else noOne n (k + 1)
theorem noOne_spec (n : Nat) : ∀ r, noOne n r = true → ∀ j, 1 ≤ j → j ≤ n → It j r ≠ 1 := by
  induction n with
  | zero => intro r _ j h1 h2; omega
  | succ n ih =>
    intro r h j h1 h2
    obtain ⟨j, rfl⟩ : ∃ i, j = i + 1 := ⟨j - 1, by omega⟩
    rw [It_succ]
    unfold noOne at h
    cases hS : S r with
    | zero => rw [hS] at h; simp at h
    | succ k =>
      rw [hS] at h
      simp only at h
      split at h
      · cases h
      · by_cases hj : j = 0
        · subst hj; simp only [It]; omega
        · exact ih (k + 1) h j (by omega) (by omega)
theorem add_eq_xor (i a b : Nat) (h : b < 2 ^ i) : 2 ^ i * a + b = (2 ^ i * a) ^^^ b := by
  apply Nat.eq_of_testBit_eq
  intro j
  rw [Nat.testBit_two_pow_mul_add a h j, Nat.testBit_xor, Nat.testBit_two_pow_mul]
  by_cases hj : j < i
  · simp [hj, Nat.not_le.2 hj]
  · have hb : b.testBit j = false := Nat.testBit_lt_two_pow (Nat.lt_of_lt_of_le h (Nat.pow_le_pow_right (by omega) (by omega)))
    simp [hj, hb, Nat.le_of_not_lt hj]
/-- n bits at once: by a row of a table. -/
theorem It_split (n x : Nat) : It n x = (x >>> n) ^^^ It n (x % 2 ^ n) := by
  have h : x = (2 ^ n * (x / 2 ^ n)) ^^^ (x % 2 ^ n) := by
    rw [← add_eq_xor n _ _ (Nat.mod_lt _ (Nat.two_pow_pos n))]
    exact (Nat.div_add_mod x (2 ^ n)).symm
  have h2 := It_xor n (2 ^ n * (x / 2 ^ n)) (x % 2 ^ n)
  rw [← h, It_pow_mul] at h2
  rw [h2, Nat.shiftRight_eq_div_pow]
def feed (r b : Nat) : Nat := It 8 (r ^^^ b)
theorem feed_lt {r b : Nat} (hr : r < 4294967296) (hb : b < 256) : feed r b < 4294967296 := It_lt 8 (Nat.xor_lt_two_pow hr (by omega))
/-- The register behind bytes. -/
def run : Nat → List UInt8 → Nat
  | r, [] => r
  | r, b :: bs => run (feed r b.toNat) bs
theorem run_append (r : Nat) (a b : List UInt8) : run r (a ++ b) = run (run r a) b := by
  induction a generalizing r with
  | nil => rfl
  | cons x a ih => exact ih _
theorem run_lt {r : Nat} (hr : r < 4294967296) (bs : List UInt8) : run r bs < 4294967296 := by
  induction bs generalizing r with
  | nil => exact hr
  | cons b bs ih => exact ih (feed_lt hr b.toNat_lt)
theorem run_take {r j : Nat} {bs : List UInt8} {x : UInt8} (h : bs[j]? = some x) : run r (bs.take (j + 1)) = feed (run r (bs.take j)) x.toNat := by
  obtain ⟨hl, he⟩ := List.getElem?_eq_some_iff.1 h
  rw [List.take_add_one, h, run_append]
  rfl
theorem run_rows {r k : Nat} {xss : List (List UInt8)} {xs : List UInt8} (h : xss[k]? = some xs) : run r (xss.take (k + 1)).flatten = run (run r (xss.take k).flatten) xs := by
  rw [List.take_add_one, h, List.flatten_append, run_append]
  simp
/-- Each bit turned. -/
def ones : Nat := 4294967295
theorem ones_lt : ones < 2 ^ 32 := by decide
theorem xor_twice (a r : Nat) : a ^^^ (a ^^^ r) = r := by rw [← Nat.xor_assoc, Nat.xor_self, Nat.zero_xor]
def turn (r : Nat) : Nat := ones ^^^ r
theorem turn_lt {r : Nat} (h : r < 4294967296) : turn r < 4294967296 := by
  have h2 : r < 2 ^ 32 := by omega
  have h3 : ones ^^^ r < 2 ^ 32 := Nat.xor_lt_two_pow ones_lt h2
  unfold turn
  omega
theorem turn_eq (r : Nat) : turn r = ones ^^^ r := rfl
theorem turn_turn (r : Nat) : turn (turn r) = r := by rw [turn_eq, turn_eq]; exact xor_twice ones r
def more (s : Nat) (bs : List UInt8) : Nat := turn (run (turn s) bs)
def sum (bs : List UInt8) : Nat := more 0 bs

/-- A bit fed: the document's step. -/
theorem S_bit (r d : Nat) (hd : d < 2) : S (r ^^^ d) = (r >>> 1) ^^^ (if (r % 2 + d) % 2 = 1 then 0xEDB88320 else 0) := by
  have h1 : (r ^^^ d) >>> 1 = r >>> 1 := by
    rw [Nat.shiftRight_xor_distrib, show d >>> 1 = 0 from by rw [Nat.shiftRight_eq_div_pow]; omega, Nat.xor_zero]
  have h2 : (r ^^^ d) % 2 = (r % 2 + d) % 2 := by rw [xor_mod_two, Nat.mod_eq_of_lt hd]
  unfold S
  rw [h1, h2]
theorem It_bit (r b k : Nat) : It (k + 1) (r ^^^ b % 2 ^ (k + 1)) = S (It k (r ^^^ b % 2 ^ k) ^^^ (b / 2 ^ k % 2)) := by
  have h1 : b % 2 ^ (k + 1) = (b % 2 ^ k) ^^^ (2 ^ k * (b / 2 ^ k % 2)) := by
    rw [Nat.xor_comm, ← add_eq_xor k _ _ (Nat.mod_lt _ (Nat.two_pow_pos k)), Nat.pow_succ, Nat.mod_mul]
    omega
  rw [It_add k 1, h1, ← Nat.xor_assoc, It_xor k, It_pow_mul]
  rfl
theorem feed_eq (r b : Nat) (hb : b < 256) : It 8 (r ^^^ b % 2 ^ 8) = feed r b := by
  unfold feed
  rw [Nat.mod_eq_of_lt (by omega)]
theorem turn_zero : turn 0 = ones := by decide
theorem sum_eq (bs : List UInt8) : sum bs = turn (run ones bs) := by unfold sum more; rw [turn_zero]
theorem more_lt {s : Nat} (hs : s < 4294967296) (bs : List UInt8) : more s bs < 4294967296 := turn_lt (run_lt (turn_lt hs) bs)
theorem sum_lt (bs : List UInt8) : sum bs < 4294967296 := more_lt (by omega) bs
theorem more_sum (a b : List UInt8) : more (sum a) b = sum (a ++ b) := by
  rw [sum_eq, sum_eq, run_append]
  unfold more
  rw [turn_turn]
theorem more_nil (s : Nat) : more s [] = s := turn_turn s
/-- A byte at once, by the table. -/
theorem feed_table (q y : Nat) (hy : y < 256) : feed q y = (q >>> 8) ^^^ It 8 ((q % 256) ^^^ y) := by
  unfold feed
  rw [It_split 8 (q ^^^ y), Nat.shiftRight_xor_distrib, show y >>> 8 = 0 from by rw [Nat.shiftRight_eq_div_pow]; omega, Nat.xor_zero]
  have h : (q ^^^ y) % 2 ^ 8 = (q % 256) ^^^ y := by
    rw [Nat.xor_mod_two_pow, Nat.mod_eq_of_lt (show y < 2 ^ 8 by omega)]
  rw [h]
end Go.Proofs.Ytkoofoglcheonaa.Crc
