/- A number brought into a range. -/
import Derived.Test.YtgpnfgjmdehfdaaLogG
namespace Go.Proofs.Ytgpnfgjmdehfdaa
set_option linter.unusedVariables false
set_option linter.unusedSimpArgs false
open Go.RowKit Go.Proofs.YtgpnfgjmdehfdaaW.PrintWords

/-- A number brought into a range. -/
def pickI (x : Int) (n : Nat) : Int := if n < 1 then 0 else x % n
theorem pickI_range (x : Int) (n : Nat) : 0 ≤ pickI x n ∧ (1 ≤ n → pickI x n < n) ∧ pickI x n ≤ n := by
  unfold pickI
  split
  · exact ⟨by omega, by omega, by omega⟩
  · have h1 := Int.emod_nonneg x (b := (n : Int)) (by omega)
    have h2 := Int.emod_lt_of_pos x (b := (n : Int)) (by omega)
    omega
theorem tmod_neg_add (x : Int) (n : Nat) (hn : 1 ≤ n) (h : x.tmod n < 0) : x.tmod n + n = x % n := by
  have h1 := Int.tmod_add_mul_tdiv x (n : Int)
  have h2 : - (n : Int) < x.tmod n := Int.lt_tmod_of_pos x (by omega)
  have h3 : (x.tmod n + n + n * (x.tdiv n - 1)) % n = (x.tmod n + n) % n := Int.add_mul_emod_self_left _ _ _
  have h4 : x.tmod n + n + n * (x.tdiv n - 1) = x := by rw [Int.mul_sub]; omega
  rw [h4] at h3
  rw [h3, Int.emod_eq_of_lt (by omega) (by omega)]
theorem tmod_nonneg_eq (x : Int) (n : Nat) (hn : 1 ≤ n) (h : 0 ≤ x.tmod n) : x.tmod n = x % n := by
  have h1 := Int.tmod_add_mul_tdiv x (n : Int)
  have h2 : x.tmod n < n := Int.tmod_lt_of_pos x (by omega)
  have h3 : (x.tmod n + n * (x.tdiv n)) % n = (x.tmod n) % n := Int.add_mul_emod_self_left _ _ _
  rw [h1] at h3
  rw [h3, Int.emod_eq_of_lt (by omega) (by omega)]
set_option maxHeartbeats 400000 in
theorem pick_any (x : Int) (n : Nat) (w : World) (hn : n ≤ 1000000000) :
    Calls Try.prog 48 #[.int .i64 x, .int .i64 n] w fun e w' => e = .returned (.int .i64 (pickI x n)) ∧ w = w' := by
  by_cases h0 : n < 1
  · have hp : pickI x n = 0 := by simp [pickI, h0]
    have HP := Lib.hid hp
    clear hp
    go_enter Try.func48, Try.ntmps48
    go_wp2_with fail
    go_ret
    exact ⟨by rw [HP.out]; rfl, rfl⟩
  · have hp : pickI x n = x % n := by simp [pickI, h0]
    have HP := Lib.hid hp
    clear hp
    by_cases h1 : x.tmod n < 0
    · have h2 := Lib.hid (tmod_neg_add x n (by omega) h1)
      have h3 : - (n : Int) < x.tmod n := Int.lt_tmod_of_pos x (by omega)
      go_enter Try.func48, Try.ntmps48
      go_wp2_with fail
      go_ret
      exact ⟨by rw [HP.out, ← h2.out]; rfl, rfl⟩
    · have h2 := Lib.hid (tmod_nonneg_eq x n (by omega) (by omega))
      go_enter Try.func48, Try.ntmps48
      go_wp2_with fail
      go_ret
      exact ⟨by rw [HP.out, ← h2.out]; rfl, rfl⟩
end Go.Proofs.Ytgpnfgjmdehfdaa
