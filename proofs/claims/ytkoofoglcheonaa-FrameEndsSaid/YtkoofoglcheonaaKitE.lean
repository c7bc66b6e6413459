/- A part of the proofs over package sum and its reference: the walks, or what they lean on. -/
import Derived.Test.YtkoofoglcheonaaKitD
namespace Go.Proofs.Ytkoofoglcheonaa
set_option linter.unusedVariables false
set_option linter.unusedSimpArgs false
open Go.RowKit Go.Proofs.YtkoofoglcheonaaW.PrintWords

set_option maxHeartbeats 800000 in
theorem keptRows_any (base : Nat) (v : Value) (A : Option Addr) (c : Nat) (xss : List (List UInt8)) (w : World) (hL : LentR w base v xss) (hA : bytes.C w A xss.length xss) (hsm : xss.length + xss.flatten.length ≤ 100000000) :
    Calls Try.prog 18 #[v, .slice A xss.length c] w fun e w' => e = .returned (.bool true) ∧ ∃ n, w' = w.drewN n := by
  obtain ⟨A2, c2, rfl, hc2⟩ := hL.len
  have HL := Lib.hid hL
  clear hL
  go_enter Try.func18, Try.ntmps18
  go_wp2_with fail
  go_loopw [5] (fun i wr => ∃ k : Nat, k ≤ xss.length ∧ i = .int .i64 k ∧ Drawn0 w wr) (fun i _ => xss.length - (intOf i).toNat)
  case atStart => exact ⟨0, by omega, rfl, Drawn0.refl _⟩
  case round =>
    obtain ⟨k, hk, rfl, ⟨m, rfl⟩⟩ := hrel
    by_cases hlt : k < xss.length
    · obtain ⟨ad, A', c', xs, rfl, hx, hcell, hle, hC⟩ := row_at hA hlt
      obtain ⟨ad2, u, rfl, hcu, hlu⟩ := HL.out.at_ hlt hx
      have hxs : xs.length ≤ xss.flatten.length := (List.sublist_flatten_of_mem (List.mem_of_getElem? hx)).length_le
      clear hx
      have hcall : ∀ q : Nat, Calls Try.prog 32 #[u, .slice A' xs.length c'] (w.drewN (m + q)) fun e w'' => e = .returned (.bool true) ∧ ∃ q', w'' = w.drewN (m + q') :=
        fun q => quiet_sum (keptBytes_any base u A' c' xs _ (hlu.below (pw_below_drewN (Below.refl _ _) _)) (Kd.C_below hC (pw_below_drewN (Below.refl _ _) _)) (by omega))
      have HC := Lib.hid hcall
      clear hcall
      obtain ⟨gu, cu, rfl, hou⟩ := hlu
      clear hou
      go_wp2_with fail
      go_quiet ((go_at_call 32; exact HC.out _))
      go_wp2_with fail
      go_roundw
      case rel => exact ⟨k + 1, by omega, by go_num, ⟨_, rfl⟩⟩
      case measure => simp [intOf]; omega
    · obtain rfl : k = xss.length := by omega
      go_wp2_with fail
      go_ret
      exact ⟨rfl, _, rfl⟩
theorem flatten_take_len {xss : List (List UInt8)} {k : Nat} {xs : List UInt8} (h : xss[k]? = some xs) : (xss.take (k + 1)).flatten.length = (xss.take k).flatten.length + xs.length := by
  rw [List.take_add_one, h, List.flatten_append, List.length_append]
  simp
def total (xss : List (List UInt8)) : Nat := xss.length + xss.flatten.length
/-- A bool is told; where it is false, p. -/
def Greater (p : Prop) (w : World) (e : Ending) (w' : World) : Prop := ∃ b, e = .returned (.bool b) ∧ w = w' ∧ (b = false → p)
set_option maxHeartbeats 800000 in
theorem great_any (A : Option Addr) (c : Nat) (xss : List (List UInt8)) (w : World) (hA : bytes.C w A xss.length xss) (hn : xss.length ≤ 200000000000000) (hrl : ∀ xs ∈ xss, xs.length ≤ 200000000000000) :
    Calls Try.prog 11 #[.slice A xss.length c] w (Greater (total xss ≤ 20000) w) := by
  go_enter Try.func11, Try.ntmps11
  go_wp2_with fail
  go_loop [3, 4] (fun x i => ∃ k n : Nat, k ≤ xss.length ∧ i = .int .i64 k ∧ x = .int .i64 n ∧ n = xss.length + (xss.take k).flatten.length ∧ n ≤ 300000000000000) (fun _ i => xss.length - (intOf i).toNat)
  case atStart => exact ⟨0, xss.length, by omega, rfl, rfl, by simp, by omega⟩
  case round =>
    obtain ⟨k, n, hk, rfl, rfl, hnn, hn2⟩ := hrel
    have HN := Lib.hid hnn
    clear hnn
    by_cases hlt : k < xss.length
    · by_cases h2 : n ≤ 20000
      · obtain ⟨ad, A', c', xs, rfl, hx, hcell, hle, hC⟩ := row_at hA hlt
        have hxl := hrl xs (List.mem_of_getElem? hx)
        have hfl := Lib.hid (flatten_take_len hx)
        clear hx
        go_wp2_with fail
        go_round
        case rel => exact ⟨k + 1, n + xs.length, by omega, by go_num, by go_num, by rw [hfl.out, HN.out]; omega, by omega⟩
        case measure => simp [intOf]; omega
      · have hd : decide (20000 < (n : Int)) = true := decide_eq_true (by omega)
        go_wp2_with fail
        go_ret
        exact ⟨true, rfl, rfl, by simp⟩
    · obtain rfl : k = xss.length := by omega
      rw [List.take_length] at HN
      go_wp2_with fail
      go_ret
      refine ⟨decide (20000 < (n : Int)), rfl, rfl, fun h => ?_⟩
      have h := of_decide_eq_false h
      have := HN.out
      unfold total
      omega
end Go.Proofs.Ytkoofoglcheonaa
