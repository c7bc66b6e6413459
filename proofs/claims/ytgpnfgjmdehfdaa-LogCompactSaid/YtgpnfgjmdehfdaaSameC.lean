/- Alike entries in a row are found alike. -/
import Derived.Test.YtgpnfgjmdehfdaaSameB
namespace Go.Proofs.Ytgpnfgjmdehfdaa
set_option linter.unusedVariables false
set_option linter.unusedSimpArgs false
open Go.RowKit Go.Proofs.YtgpnfgjmdehfdaaW.PrintWords

set_option maxRecDepth 100000 in
set_option maxHeartbeats 800000 in
theorem sameEntries_any {A B : Option Addr} {c d : Nat} {xs : List Ent} {w : World} (hA : entK.C w A xs.length xs) (hB : entK.C w B xs.length xs) :
    Calls Try.prog 68 #[.slice A xs.length c, .slice B xs.length d] w fun e w' => e = .returned (.bool true) ∧ In w w' := by
  have hm : xs.length ≤ 9223372036854775807 := hA.2.1
  have HA := Lib.hid hA
  have HB := Lib.hid hB
  clear hA hB
  go_enter Try.func68, Try.ntmps68
  go_wp2_with fail
  go_loopw [5] (fun i wr => ∃ j : Nat, j ≤ xs.length ∧ i = .int .i64 j ∧ In w wr) (fun i _ => xs.length - (intOf i).toNat)
  case atStart => exact ⟨0, by omega, rfl, In.refl _⟩
  case round =>
    obtain ⟨j, hj, rfl, hin⟩ := hrel
    by_cases hl : j < xs.length
    · obtain ⟨ad, x, A2, c2, A3, c3, A4, c4, A5, c5, A6, c6, rfl, hx, k0, k1, k2, k3, k4, k5, k6, l2, g2, l3, g3, l4, g4, l5, g5, l6, g6⟩ := entK_at (Kd.C_below HA.out hin.out) hl
      obtain ⟨ad2, x2, B2, d2, B3, d3, B4, d4, B5, d5, B6, d6, rfl, hx2, n0, n1, n2, n3, n4, n5, n6, m2, h2, m3, h3, m4, h4, m5, h5, m6, h6⟩ := entK_at (Kd.C_below HB.out hin.out) hl
      obtain rfl : x = x2 := by rw [hx] at hx2; exact Option.some.inj hx2
      have HX := Lib.hid (entK_mk (x := x) l2 g2 l3 g3 l4 g4 l5 g5 l6 g6)
      have HY := Lib.hid (entK_mk (x := x) m2 h2 m3 h3 m4 h4 m5 h5 m6 h6)
      clear hx hx2 g2 g3 g4 g5 g6 h2 h3 h4 h5 h6 HA HB
      obtain ⟨wo, rfl⟩ : ∃ wo : World, wo = wr := ⟨_, rfl⟩
      replace k0 := In.cells k0
      replace k1 := In.cells k1
      replace k2 := In.cells k2
      replace k3 := In.cells k3
      replace k4 := In.cells k4
      replace k5 := In.cells k5
      replace k6 := In.cells k6
      replace n0 := In.cells n0
      replace n1 := In.cells n1
      replace n2 := In.cells n2
      replace n3 := In.cells n3
      replace n4 := In.cells n4
      replace n5 := In.cells n5
      replace n6 := In.cells n6
      have hd1 : decide ((j : Int) < (xs.length : Int)) = true := decide_eq_true (by omega)
      go_wp2_with fail
      go_region_held3? (fun w' => In wo w') (first | exact In.drew (In.refl _) | exact In.alloc (by assumption) _ | exact In.next (by assumption) (by assumption))
        (first
          | (go_at_call 50; (with_reducible refine Calls.mono (sameEntry_any (x := x) (entK.K_below (In.out (by assumption)) HX.out) (entK.K_below (In.out (by assumption)) HY.out)) ?_); rintro e w1 ⟨rfl, hb1⟩))
      go_wp2_with fail
      go_roundw
      case rel => exact ⟨j + 1, by omega, by go_num, In.trans hin (show In wo _ by assumption)⟩
      case measure => simp [intOf]; omega
    · obtain rfl : j = xs.length := by omega
      go_wp2_with fail
      go_ret
      exact ⟨rfl, hin⟩
end Go.Proofs.Ytgpnfgjmdehfdaa
