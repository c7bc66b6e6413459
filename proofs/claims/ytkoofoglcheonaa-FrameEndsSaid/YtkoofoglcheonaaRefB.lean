/- A part of the proofs over package sum and its reference: the walks, or what they lean on. -/
import Derived.Test.YtkoofoglcheonaaRefA
namespace Go.Proofs.Ytkoofoglcheonaa
set_option linter.unusedVariables false
set_option linter.unusedSimpArgs false
open Go.RowKit Go.Proofs.YtkoofoglcheonaaW.PrintWords

theorem flatten_take_le (xss : List (List UInt8)) (k : Nat) : (xss.take k).flatten.length ≤ xss.flatten.length := by
  have h : xss.flatten.length = (xss.take k).flatten.length + (xss.drop k).flatten.length := by
    rw [← List.length_append, ← List.flatten_append, List.take_append_drop]
  omega
theorem flatten_take_succ {xss : List (List UInt8)} {k : Nat} {xs : List UInt8} (h : xss[k]? = some xs) : (xss.take (k + 1)).flatten = (xss.take k).flatten ++ xs := by
  rw [List.take_add_one, h, List.flatten_append]
  simp
set_option maxHeartbeats 800000 in
theorem rsum_any (A : Option Addr) (n c : Nat) (xss : List (List UInt8)) (w : World) (hA : bytes.C w A n xss) (hsm : xss.flatten.length ≤ 100000000) :
    Calls Try.prog 15 #[.slice A n c] w fun e w' => e = .returned (.int .u32 (Crc.sum xss.flatten : Nat)) ∧ Below w.heap.size w w' := by
  obtain ⟨hlen, hmax⟩ := row_len hA
  have hsig : IntKind.u32.signed = false := rfl
  go_enter Try.func15, Try.ntmps15
  go_wp2_with fail
  go_loopw [3, 4] (fun v i wr => ∃ k : Nat, k ≤ n ∧ i = .int .i64 k ∧ wr.ownsRow w.heap.size 5 1 v (xss.take k).flatten.length (encs encB (xss.take k).flatten) ∧ Below w.heap.size w wr) (fun _ i _ => n - (intOf i).toNat)
  case atStart => exact ⟨0, by omega, rfl, own_nil _ _ _ _, Below.refl _ _⟩
  case round =>
    obtain ⟨k, hk, rfl, ho, hbel⟩ := hrel
    have HO := Lib.hid ho
    clear ho
    by_cases hlt : k < n
    · obtain ⟨ad, A', c', xs, rfl, hx, hcell0, hle, hC⟩ := row_at hA hlt
      have hcell := pw_cell_below hbel hcell0
      have hfl := Lib.hid (flatten_take_succ hx)
      have hle1 := flatten_take_le xss k
      have hle2 := flatten_take_le xss (k + 1)
      rw [hfl.out, List.length_append] at hle2
      clear hx hcell0
      generalize (xss.take k).flatten = acc at *
      have HR := Lib.hid (byte_reads (Kd.C_below hC hbel))
      go_wp2_with (at_builtin; refine print_append_row_of encB (0 : UInt8) w.heap.size rfl (.tmp 13) (.tmp 17) 34 5 (.int .u8 0) 1 rfl Try.underlying34 info5 rfl (by decide) (fun _ => rfl) _ acc xs A' xs.length c' rfl rfl HO.out HR.out hbel hbel.size (by omega) ?_)
      intro v1 w1 ho1 hb1 hg1 hat1
      go_wp2_with fail
      go_roundw
      case rel => exact ⟨k + 1, by omega, by go_num, by rw [hfl.out, List.length_append]; exact ho1, hb1⟩
      case measure => simp [intOf]; omega
    · obtain rfl : k = n := by omega
      rw [List.take_of_length_le (by omega)] at HO
      obtain ⟨A2, c2, rfl, hR⟩ := own_reads_of (d := (0 : UInt8)) HO.out
      have hC := byte_of_reads hR
      clear hR
      have hse := Lib.hid (Crc.sum_eq xss.flatten)
      generalize hys : xss.flatten = ys at *
      have HYS := Lib.hid hys
      clear hys
      go_wp2_with fail
      go_loop [5, 6] (fun x i => ∃ j : Nat, j ≤ ys.length ∧ i = .int .i64 j ∧ x = .int .u32 (Crc.run Crc.ones (ys.take j) : Nat)) (fun _ i => ys.length - (intOf i).toNat)
      case atStart => exact ⟨0, by omega, rfl, rfl⟩
      case round =>
        obtain ⟨j, hj, rfl, rfl⟩ := hrel
        have hrj := Crc.run_lt (r := Crc.ones) (by decide) (ys.take j)
        by_cases hjl : j < ys.length
        · obtain ⟨ad', x, rfl, hxj, hcj⟩ := byte_at hC hjl
          have hxlt := x.toNat_lt
          have hstep := Lib.hid (Crc.run_take (r := Crc.ones) hxj)
          clear hxj
          generalize Crc.run Crc.ones (ys.take j) = q at *
          go_wp2_with fail
          refine (rfeed_any q x.toNat _ hrj hxlt).mono ?_
          rintro e w2 ⟨rfl, rfl⟩
          go_wp2_with fail
          go_round
          case rel => exact ⟨j + 1, by omega, by go_num, by rw [hstep.out]⟩
          case measure => simp [intOf]; omega
        · obtain rfl : j = ys.length := by omega
          rw [List.take_length] at hrj
          rw [List.take_length]
          have hnot := turn_spelt _ hrj
          go_wp2
          go_ret
          exact ⟨by rw [HYS.out, hse.out]; rfl, hbel⟩

set_option maxHeartbeats 400000 in
theorem bit_0 (r : Nat) (w : World) (hr : r < 4294967296) :
    Calls Try.prog 40 #[.int .u32 r, .int .u32 0] w fun e w' => e = .returned (.int .u32 (Crc.S r : Nat)) ∧ w = w' := by
  have h := bit_any r 0 w hr (by omega)
  rw [Nat.xor_zero] at h
  exact h
end Go.Proofs.Ytkoofoglcheonaa
