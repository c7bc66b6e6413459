/- Plain laws of bits: what the model's and, or, xor of unsigned numbers are on natural numbers. -/
import Derived.WalkKit
import Derived.Test.YtkoofoglcheonaaCrc
namespace Go.Proofs.Ytkoofoglcheonaa
set_option linter.unusedVariables false
set_option linter.unusedSimpArgs false
open Go.RowKit

theorem toNat_of32 (a : Nat) (h : a < 4294967296) : (BitVec.ofInt 32 (a : Int)).toNat = a := by
  rw [BitVec.ofInt_natCast, BitVec.toNat_ofNat]; exact Nat.mod_eq_of_lt (by omega)
theorem toNat_of8 (a : Nat) (h : a < 256) : (BitVec.ofInt 8 (a : Int)).toNat = a := by
  rw [BitVec.ofInt_natCast, BitVec.toNat_ofNat]; exact Nat.mod_eq_of_lt (by omega)
theorem wrap_u32_nat (a : Nat) (h : a < 4294967296) : IntKind.u32.wrap (a : Int) = (a : Int) := by
  simp [IntKind.wrap, IntKind.bits, IntKind.signed]; omega
theorem wrap_u8_nat (a : Nat) (h : a < 256) : IntKind.u8.wrap (a : Int) = (a : Int) := by
  simp [IntKind.wrap, IntKind.bits, IntKind.signed]; omega

theorem bits_xor_u32 (a b : Nat) (ha : a < 4294967296) (hb : b < 4294967296) : bits .xor .u32 (a : Int) (b : Int) = ((a ^^^ b : Nat) : Int) := by
  have hx : a ^^^ b < 2 ^ 32 := Nat.xor_lt_two_pow (by omega) (by omega)
  show IntKind.u32.wrap ((BitVec.ofInt 32 (a : Int) ^^^ BitVec.ofInt 32 (b : Int)).toNat : Int) = _
  rw [BitVec.toNat_xor, toNat_of32 a ha, toNat_of32 b hb, wrap_u32_nat _ (by omega)]
theorem bits_and_u32 (a b : Nat) (ha : a < 4294967296) (hb : b < 4294967296) : bits .and .u32 (a : Int) (b : Int) = ((a &&& b : Nat) : Int) := by
  have hx : a &&& b < 4294967296 := Nat.lt_of_le_of_lt Nat.and_le_left ha
  show IntKind.u32.wrap ((BitVec.ofInt 32 (a : Int) &&& BitVec.ofInt 32 (b : Int)).toNat : Int) = _
  rw [BitVec.toNat_and, toNat_of32 a ha, toNat_of32 b hb, wrap_u32_nat _ hx]
theorem bits_or_u32 (a b : Nat) (ha : a < 4294967296) (hb : b < 4294967296) : bits .or .u32 (a : Int) (b : Int) = ((a ||| b : Nat) : Int) := by
  have hx : a ||| b < 2 ^ 32 := Nat.or_lt_two_pow (by omega) (by omega)
  show IntKind.u32.wrap ((BitVec.ofInt 32 (a : Int) ||| BitVec.ofInt 32 (b : Int)).toNat : Int) = _
  rw [BitVec.toNat_or, toNat_of32 a ha, toNat_of32 b hb, wrap_u32_nat _ (by omega)]
theorem bits_xor_u8 (a b : Nat) (ha : a < 256) (hb : b < 256) : bits .xor .u8 (a : Int) (b : Int) = ((a ^^^ b : Nat) : Int) := by
  have hx : a ^^^ b < 2 ^ 8 := Nat.xor_lt_two_pow (by omega) (by omega)
  show IntKind.u8.wrap ((BitVec.ofInt 8 (a : Int) ^^^ BitVec.ofInt 8 (b : Int)).toNat : Int) = _
  rw [BitVec.toNat_xor, toNat_of8 a ha, toNat_of8 b hb, wrap_u8_nat _ (by omega)]
theorem and_one' (a : Nat) : a &&& 1 = a % 2 := Nat.and_one_is_mod a
theorem and_15 (a : Nat) : a &&& 15 = a % 16 := Nat.and_two_pow_sub_one_eq_mod a 4

/-- The program's step of a register, as the walk spells it. -/
theorem step_spelt (r : Nat) (hr : r < 4294967296) :
    bits .xor .u32 ((r : Int) / 2) (3988292384 * bits .and .u32 (r : Int) 1 % 4294967296) = ((Crc.S r : Nat) : Int) := by
  have h1 : bits .and .u32 (r : Int) 1 = ((r % 2 : Nat) : Int) := by
    have := bits_and_u32 r 1 hr (by decide)
    rw [and_one'] at this
    exact this
  rw [h1]
  have h2 : (3988292384 * ((r % 2 : Nat) : Int) % 4294967296) = ((if r % 2 = 1 then 3988292384 else 0 : Nat) : Int) := by
    rcases Nat.mod_two_eq_zero_or_one r with h | h <;> rw [h] <;> simp
  have h3 : (r : Int) / (2 : Int) = ((r >>> 1 : Nat) : Int) := by rw [Nat.shiftRight_eq_div_pow]; omega
  rw [h2, h3, bits_xor_u32 _ _ (by rw [Nat.shiftRight_eq_div_pow]; omega) (by split <;> omega)]
  rfl
theorem It_snoc (n r : Nat) : Crc.It (n + 1) r = Crc.S (Crc.It n r) := by
  rw [Crc.It_add n 1]; rfl

/-- Four bits at once, by the rows, as the walk spells it. -/
theorem nibble_spelt (x : Nat) (hx : x < 4294967296) : bits .xor .u32 ((x : Int) / (16 : Int)) ((Crc.It 4 (x % 16) : Nat) : Int) = ((Crc.It 4 x : Nat) : Int) := by
  have h1 : (x : Int) / (16 : Int) = ((x >>> 4 : Nat) : Int) := by rw [Nat.shiftRight_eq_div_pow]; omega
  have h2 := Crc.It_lt 4 (r := x % 16) (by omega)
  rw [h1, bits_xor_u32 _ _ (by rw [Nat.shiftRight_eq_div_pow]; omega) (by omega), Crc.It_split 4 x]
theorem low_spelt (x : Nat) (hx : x < 4294967296) : bits .and .u32 (x : Int) 15 = ((x % 16 : Nat) : Int) := by
  have := bits_and_u32 x 15 hx (by decide)
  rw [and_15] at this
  exact this

theorem turn_spelt (s : Nat) (hs : s < 4294967296) : bits .xor .u32 IntKind.u32.max (s : Int) = ((Crc.turn s : Nat) : Int) := by
  have h : IntKind.u32.max = ((Crc.ones : Nat) : Int) := by decide
  have h2 : Crc.ones < 4294967296 := by decide
  rw [h, Crc.turn_eq]
  exact bits_xor_u32 Crc.ones s h2 hs

theorem index_spelt (q y : Nat) (hy : y < 256) : bits .xor .u8 ((q : Int) % 256) (y : Int) = (((q % 256) ^^^ y : Nat) : Int) ∧ (q % 256) ^^^ y < 256 := by
  have h1 : ((q : Int) % 256) = ((q % 256 : Nat) : Int) := by omega
  have h2 : (q % 256) ^^^ y < 2 ^ 8 := Nat.xor_lt_two_pow (by omega) (by omega)
  rw [h1]
  exact ⟨bits_xor_u8 _ _ (by omega) hy, by omega⟩
theorem table_spelt (q y : Nat) (hq : q < 4294967296) (hy : y < 256) : bits .xor .u32 ((q : Int) / (256 : Int)) ((Crc.It 8 ((q % 256) ^^^ y) : Nat) : Int) = ((Crc.feed q y : Nat) : Int) := by
  have h1 : (q : Int) / (256 : Int) = ((q >>> 8 : Nat) : Int) := by rw [Nat.shiftRight_eq_div_pow]; omega
  have h2 := Crc.It_lt 8 (r := (q % 256) ^^^ y) (by have := (index_spelt q y hy).2; omega)
  rw [h1, bits_xor_u32 _ _ (by rw [Nat.shiftRight_eq_div_pow]; omega) (by omega), ← Crc.feed_table q y hy]
end Go.Proofs.Ytkoofoglcheonaa
