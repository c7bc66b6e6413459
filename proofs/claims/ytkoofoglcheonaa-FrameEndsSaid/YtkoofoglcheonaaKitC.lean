/- A part of the proofs over package sum and its reference: the walks, or what they lean on. -/
import Derived.Test.YtkoofoglcheonaaKitB
import Derived.Deep.QuietTactic
import Derived.BigQuiet
namespace Go.Proofs.Ytkoofoglcheonaa
set_option linter.unusedVariables false
set_option linter.unusedSimpArgs false
open Go.RowKit Go.Proofs.YtkoofoglcheonaaW.PrintWords

theorem encB_at {xs : List UInt8} {j : Nat} {x : UInt8} (h : xs[j]? = some x) : (encs encB xs)[j]? = some (.int .u8 (x.toNat : Int)) := by
  simp [encs, h]
  rfl
theorem markByte_int (k : Nat) (i : Int) (w : World) (h0 : 0 ≤ i) (hk : k ≤ 100000000) (hi : i ≤ 100000000) :
    Calls Try.prog 41 #[.int .i64 k, .int .i64 i] w fun e w' => e = .returned (.int .u8 ((markB k i.toNat).toNat : Nat)) ∧ w' = w := by
  obtain ⟨n, rfl⟩ := Int.eq_ofNat_of_zero_le h0
  exact (markByte_any k n w hk (by omega)).mono fun e w' h => ⟨h.1, h.2.symm⟩
set_option maxHeartbeats 400000 in
theorem keptBytes_any (base : Nat) (v : Value) (A : Option Addr) (c : Nat) (xs : List UInt8) (w : World) (hL : Lent w base v xs) (hA : byte.C w A xs.length xs) (hsm : xs.length ≤ 100000000) :
    Calls Try.prog 32 #[v, .slice A xs.length c] w fun e w' => e = .returned (.bool true) ∧ ∃ n, w' = w.drewN n := by
  obtain ⟨g, c', rfl, hown⟩ := hL
  have hcap := own_le hown
  have HO := Lib.hid hown
  clear hown
  go_enter Try.func32, Try.ntmps32
  go_wp2_with fail
  go_loopw [6] (fun i wr => ∃ k : Nat, k ≤ xs.length + 12 ∧ i = .int .i64 k ∧ Drawn0 w wr) (fun i _ => xs.length + 12 - (intOf i).toNat)
  case atStart => exact ⟨0, by omega, rfl, Drawn0.refl _⟩
  case round =>
    obtain ⟨k, hk, rfl, ⟨m, rfl⟩⟩ := hrel
    by_cases hlt : k < xs.length + 12
    · have hd0 : decide ((k : Int) < (xs.length : Int) + 12) = true := decide_eq_true (by omega)
      by_cases hl : k < xs.length
      · obtain ⟨ad, x, rfl, hx, hcl⟩ := byte_at hA hl
        have hco : w.cell? ⟨g, k, none⟩ = some (.int .u8 (x.toNat : Int)) := by
          have := HO.out.cells (g := g) rfl k _ (encB_at (x := x) (by rw [List.getElem?_append_left hl]; exact hx))
          rwa [add_plain] at this
        clear hx
        have hd : decide ((k : Int) < (xs.length : Int)) = true := decide_eq_true (by omega)
        have hd2 : decide (xs.length ≤ k) = false := decide_eq_false (by omega)
        go_wp2_with fail
        go_quiet (fail)
        go_wp2_with fail
        go_roundw
        case rel => exact ⟨k + 1, by omega, by go_num, ⟨_, rfl⟩⟩
        case measure => simp [intOf]; omega
      · have hco : w.cell? ⟨g, k, none⟩ = some (.int .u8 ((markB 1 (k - xs.length)).toNat : Int)) := by
          have := HO.out.cells (g := g) rfl k _ (encB_at (x := markB 1 (k - xs.length)) (by
            rw [List.getElem?_append_right (by omega), marks, List.getElem?_map, List.getElem?_range (by omega)]; rfl))
          rwa [add_plain] at this
        have hcall := Lib.hid (fun W => markByte_int 1 ((k : Int) - (xs.length : Int)) W (by omega) (by omega) (by omega))
        rw [show ((k : Int) - (xs.length : Int)).toNat = k - xs.length from by omega] at hcall
        generalize markB 1 (k - xs.length) = y at *
        have hd : decide ((k : Int) < (xs.length : Int)) = false := decide_eq_false (by omega)
        have hd2 : decide (xs.length ≤ k) = true := decide_eq_true (by omega)
        have hw : IntKind.i64.wrap ((k : Int) - (xs.length : Int)) = (k : Int) - (xs.length : Int) := IntWalk.i64_in _ (by omega)
        go_wp2_with fail
        go_quiet ((go_at_call 41; exact quiet_sum_same (hcall.out _)))
        go_wp2_with fail
        go_roundw
        case rel => exact ⟨k + 1, by omega, by go_num, ⟨_, rfl⟩⟩
        case measure => simp [intOf]; omega
    · obtain rfl : k = xs.length + 12 := by omega
      have hd0 : decide (((xs.length + 12 : Nat) : Int) < (xs.length : Int) + 12) = false := decide_eq_false (by omega)
      go_wp2_with fail
      go_ret
      exact ⟨rfl, _, rfl⟩
end Go.Proofs.Ytkoofoglcheonaa
