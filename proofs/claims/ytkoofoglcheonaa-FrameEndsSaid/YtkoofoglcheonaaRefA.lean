/- The walks of package watershedref01. -/
import Derived.Test.YtkoofoglcheonaaMem
import Derived.Test.YtkoofoglcheonaaBits
namespace Go.Proofs.Ytkoofoglcheonaa
set_option linter.unusedVariables false
set_option linter.unusedSimpArgs false
open Go.RowKit Go.Proofs.YtkoofoglcheonaaW.PrintWords

set_option maxHeartbeats 400000 in
theorem bit_any (r d : Nat) (w : World) (hr : r < 4294967296) (hd : d < 2) :
    Calls Try.prog 40 #[.int .u32 r, .int .u32 d] w fun e w' => e = .returned (.int .u32 (Crc.S (r ^^^ d) : Nat)) ∧ w = w' := by
  have hS := Crc.S_bit r d hd
  have h1 : bits .xor .u32 (bits .and .u32 (r : Int) 1) (d : Int) = (((r % 2 + d) % 2 : Nat) : Int) := by
    have h2 : bits .and .u32 (r : Int) 1 = ((r % 2 : Nat) : Int) := by
      have := bits_and_u32 r 1 hr (by decide)
      rw [and_one'] at this
      exact this
    rw [h2, bits_xor_u32 _ _ (by omega) (by omega)]
    rcases Nat.mod_two_eq_zero_or_one r with h | h <;> rw [h] <;> (match d, hd with | 0, _ => rfl | 1, _ => rfl)
  have h3 : (r : Int) / (2 : Int) = ((r >>> 1 : Nat) : Int) := by rw [Nat.shiftRight_eq_div_pow]; omega
  have h4 := bits_xor_u32 (r >>> 1) 3988292384 (by rw [Nat.shiftRight_eq_div_pow]; omega) (by omega)
  have HS := Lib.hid hS
  have H3 := Lib.hid h3
  have H4 := Lib.hid h4
  clear hS h3 h4
  by_cases hc : (r % 2 + d) % 2 = 1
  · have hb : ((((r % 2 + d) % 2 : Nat) : Int) == 1) = true := by rw [hc]; rfl
    have Hc := Lib.hid hc
    clear hc
    go_enter Try.func40, Try.ntmps40
    go_wp2
    go_ret
    refine ⟨?_, rfl⟩
    rw [HS.out, if_pos Hc.out, H3.out, ← H4.out]
    rfl
  · have hb : ((((r % 2 + d) % 2 : Nat) : Int) == 1) = false := by rw [beq_eq_false_iff_ne]; omega
    have Hc := Lib.hid hc
    clear hc
    go_enter Try.func40, Try.ntmps40
    go_wp2
    go_ret
    refine ⟨?_, rfl⟩
    rw [HS.out, if_neg Hc.out, Nat.xor_zero]
    rfl
theorem bitof_spelt (b k : Nat) (hb : b < 256) : bits .and .u32 ((b : Int) / 2 ^ k % 4294967296) 1 = ((b / 2 ^ k % 2 : Nat) : Int) := by
  have h1 : b / 2 ^ k < 4294967296 := Nat.lt_of_le_of_lt (Nat.div_le_self _ _) (by omega)
  have h2 : ((b : Int) / 2 ^ k % 4294967296) = ((b / 2 ^ k : Nat) : Int) := by
    have h3 : ((b : Int) / 2 ^ k) = ((b / 2 ^ k : Nat) : Int) := by simp
    rw [h3]
    clear h3
    generalize b / 2 ^ k = q at *
    omega
  have := bits_and_u32 (b / 2 ^ k) 1 h1 (by decide)
  rw [and_one'] at this
  rw [h2]
  exact this
set_option maxHeartbeats 400000 in
theorem rfeed_any (r b : Nat) (w : World) (hr : r < 4294967296) (hb : b < 256) :
    Calls Try.prog 36 #[.int .u32 r, .int .u8 b] w fun e w' => e = .returned (.int .u32 (Crc.feed r b : Nat)) ∧ w = w' := by
  go_enter Try.func36, Try.ntmps36
  go_wp2_with fail
  go_loop [0, 5] (fun x i => ∃ k : Nat, k ≤ 8 ∧ i = .int .i64 k ∧ x = .int .u32 (Crc.It k (r ^^^ b % 2 ^ k) : Nat)) (fun _ i => 8 - (intOf i).toNat)
  case atStart => exact ⟨0, by omega, rfl, by simp [Crc.It, Nat.mod_one]⟩
  case round =>
    obtain ⟨k, hk, rfl, rfl⟩ := hrel
    by_cases hlt : k < 8
    · have hstep := Lib.hid (Crc.It_bit r b k)
      have hx := Crc.It_lt k (r := r ^^^ b % 2 ^ k) (Nat.xor_lt_two_pow (n := 32) (by omega) (Nat.lt_of_le_of_lt (Nat.mod_le _ _) (by omega)))
      generalize Crc.It k (r ^^^ b % 2 ^ k) = x at *
      go_wp2_with fail
      rw [bitof_spelt b k hb]
      refine (bit_any x (b / 2 ^ k % 2) _ (by omega) (by omega)).mono ?_
      rintro e w1 ⟨rfl, rfl⟩
      go_wp2_with fail
      go_round
      case rel => exact ⟨k + 1, by omega, by go_num, by rw [hstep.out]⟩
      case measure => simp [intOf]; omega
    · obtain rfl : k = 8 := by omega
      have hf := Lib.hid (Crc.feed_eq r b hb)
      go_wp2_with fail
      go_ret
      exact ⟨by rw [← hf.out]; rfl, rfl⟩

set_option maxHeartbeats 800000 in
theorem rmore_any (s : Nat) (A : Option Addr) (n c : Nat) (xss : List (List UInt8)) (w : World) (hs : s < 4294967296) (hA : bytes.C w A n xss) :
    Calls Try.prog 17 #[.int .u32 s, .slice A n c] w fun e w' => e = .returned (.int .u32 (Crc.more s xss.flatten : Nat)) ∧ w = w' := by
  obtain ⟨hlen, hmax⟩ := row_len hA
  have hnot := turn_spelt s hs
  have hts := Crc.turn_lt hs
  have hsig : IntKind.u32.signed = false := rfl
  go_enter Try.func17, Try.ntmps17
  go_wp2_with fail
  clear hnot
  go_loop [5, 6, 7] (fun x i _ => ∃ k : Nat, k ≤ n ∧ i = .int .i64 k ∧ x = .int .u32 (Crc.run (Crc.turn s) (xss.take k).flatten : Nat)) (fun _ i _ => n - (intOf i).toNat)
  case atStart => exact ⟨0, by omega, rfl, rfl⟩
  case round =>
    obtain ⟨k, hk, rfl, rfl⟩ := hrel
    have hr0 := Crc.run_lt hts (xss.take k).flatten
    by_cases hlt : k < n
    · obtain ⟨ad, A', c', xs, rfl, hx, hcell, hle, hC⟩ := row_at hA hlt
      have hrows := Lib.hid (Crc.run_rows (r := Crc.turn s) hx)
      clear hx
      obtain ⟨_, hmx⟩ := byte_len hC
      generalize Crc.run (Crc.turn s) (xss.take k).flatten = r at *
      go_wp2_with fail
      go_loop [5, 7] (fun x i => ∃ j : Nat, j ≤ xs.length ∧ i = .int .i64 j ∧ x = .int .u32 (Crc.run r (xs.take j) : Nat)) (fun _ i => xs.length - (intOf i).toNat)
      case atStart => exact ⟨0, by omega, rfl, rfl⟩
      case round =>
        obtain ⟨j, hj, rfl, rfl⟩ := hrel
        by_cases hjl : j < xs.length
        · obtain ⟨ad', x, rfl, hxj, hcj⟩ := byte_at hC hjl
          have hrj := Crc.run_lt hr0 (xs.take j)
          have hxlt := x.toNat_lt
          have hstep := Lib.hid (Crc.run_take (r := r) hxj)
          clear hxj
          generalize Crc.run r (xs.take j) = q at *
          go_wp2_with fail
          refine (rfeed_any q x.toNat _ hrj hxlt).mono ?_
          rintro e w2 ⟨rfl, rfl⟩
          go_wp2_with fail
          go_round
          case rel => exact ⟨j + 1, by omega, by go_num, by rw [hstep.out]⟩
          case measure => simp [intOf]; omega
        · obtain rfl : j = xs.length := by omega
          rw [List.take_length]
          go_wp2_with fail
          go_round
          case rel => exact ⟨k + 1, by omega, by go_num, by rw [hrows.out]⟩
          case measure => simp [intOf]; omega
    · obtain rfl : k = n := by omega
      rw [List.take_of_length_le (by omega)] at hr0
      rw [List.take_of_length_le (by omega)]
      have hnot := turn_spelt _ hr0
      go_wp2
      go_ret
      exact ⟨rfl, rfl⟩
end Go.Proofs.Ytkoofoglcheonaa
