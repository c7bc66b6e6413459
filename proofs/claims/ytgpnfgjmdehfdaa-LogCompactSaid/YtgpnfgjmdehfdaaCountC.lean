/- Are acts over a log too great? -/
import Derived.Test.YtgpnfgjmdehfdaaCountB
namespace Go.Proofs.Ytgpnfgjmdehfdaa
set_option linter.unusedVariables false
set_option linter.unusedSimpArgs false
open Go.RowKit Go.Proofs.YtgpnfgjmdehfdaaW.PrintWords

def Act10.fits (x : Act10) : Prop := entsFit x.es ∧ x.b.g.fits
def Act10.small (x : Act10) : Prop := entsOf x.es ≤ 400 ∧ x.index ≤ 1073741824 ∧ x.b.i ≤ 1073741824 ∧ x.b.g.len ≤ 100
def smallActs (l : List Act10) : Prop := l.length ≤ 80 ∧ ∀ (j : Nat) (x : Act10), l[j]? = some x → x.small
theorem small_step {l : List Act10} {j : Nat} {x : Act10} (h : ∀ (k : Nat) (x : Act10), k < j → l[k]? = some x → x.small) (hx : l[j]? = some x) (hs : x.small) : ∀ (k : Nat) (x : Act10), k < j + 1 → l[k]? = some x → x.small := fun k y hk hy => by
  rcases Nat.lt_or_ge k j with h1 | h1
  · exact h k y h1 hy
  · obtain rfl : k = j := by omega
    rw [hx] at hy
    obtain rfl := Option.some.inj hy
    exact hs
set_option maxRecDepth 100000 in
set_option maxHeartbeats 1600000 in
theorem great10_any {A : Option Addr} {c : Nat} {xs : List Act10} {w : World} (hA : actK.C w A xs.length xs) (hf : ∀ (j : Nat) (x : Act10), xs[j]? = some x → x.fits) :
    Calls Try.prog 12 #[.slice A xs.length c] w fun e w' => ∃ b : Bool, e = .returned (.bool b) ∧ In w w' ∧ orElse_ b (smallActs xs) := by
  have hm := hA.2.1
  have HA := Lib.hid hA
  have HF := Lib.hid hf
  clear hA hf
  go_enter Try.func12, Try.ntmps12
  go_wp2_with fail
  go_loopw [3] (fun i wr => ∃ j : Nat, j ≤ xs.length ∧ j ≤ 81 ∧ i = .int .i64 j ∧ In w wr ∧ Hid (∀ (k : Nat) (x : Act10), k < j → xs[k]? = some x → x.small)) (fun i _ => xs.length - (intOf i).toNat)
  case atStart => exact ⟨0, by omega, by omega, rfl, In.refl _, Lib.hid (fun k x hk _ => absurd hk (by omega))⟩
  case round =>
    obtain ⟨j, hj, hj61, rfl, hin, hsm⟩ := hrel
    by_cases hl : j < xs.length
    · have hd1 : decide ((j : Int) < (xs.length : Int)) = true := decide_eq_true (by omega)
      by_cases hle : j < 81
      · have hd2 : decide ((j : Int) < 81) = true := decide_eq_true (by omega)
        obtain ⟨ad, x, A2, c2, A5, c5, A6, c6, A7, c7, A8, c8, rfl, hx, k0, k1, k2, k3, k4, k5, k6, k7, k8, l2, g2, l5, g5, l6, g6, l7, g7, l8, g8⟩ := actK_at (Kd.C_below HA.out hin.out) hl
        have HX := Lib.hid (cfgK_mk (x := x.b.g) l5 g5 l6 g6 l7 g7 l8 g8)
        have HE := Lib.hid g2
        have HG := Lib.hid (HF.out j x hx)
        have HXX := Lib.hid hx
        clear hx g2 g5 g6 g7 g8 HA k0 k4
        replace k1 := In.cells k1
        replace k2 := In.cells k2
        replace k3 := In.cells k3
        replace k5 := In.cells k5
        replace k6 := In.cells k6
        replace k7 := In.cells k7
        replace k8 := In.cells k8
        have hwr := In.refl wr
        go_wp2_with fail
        refine (entriesOf_any (xs := x.es) 400 (by omega) HE.out HG.out.1).mono ?_
        rintro e w1 ⟨n, rfl, hb1, hn, hu⟩
        have HU := Lib.hid hu
        clear hu
        have hret : In w w1 := hin.trans hb1
        by_cases hbig : 400 < n
        · have hd3 : decide ((400 : Int) < (n : Int)) = true := decide_eq_true (by omega)
          go_wp2_with fail
          go_ret
          exact ⟨true, rfl, hret, fun h => absurd h (by decide)⟩
        have hd3 : decide ((400 : Int) < (n : Int)) = false := decide_eq_false (by omega)
        by_cases hbig2 : 1073741824 < x.index
        · have hd4 : decide ((1073741824 : Int) < x.index) = true := decide_eq_true (by omega)
          go_wp2_with fail
          go_ret
          exact ⟨true, rfl, hret, fun h => absurd h (by decide)⟩
        have hd4 : decide ((1073741824 : Int) < x.index) = false := decide_eq_false (by omega)
        by_cases hbig3 : 1073741824 < x.b.i
        · have hd5 : decide ((1073741824 : Int) < x.b.i) = true := decide_eq_true (by omega)
          go_wp2_with fail
          go_ret
          exact ⟨true, rfl, hret, fun h => absurd h (by decide)⟩
        have hd5 : decide ((1073741824 : Int) < x.b.i) = false := decide_eq_false (by omega)
        go_wp2_with fail
        refine (configOf_any (x := x.b.g) (cfgK.K_below hb1.out HX.out) HG.out.2).mono ?_
        rintro e w2 ⟨rfl, hb2⟩
        have hret2 : In w w2 := hret.trans hb2
        by_cases hbig4 : 100 < x.b.g.len
        · have hd6 : decide ((100 : Int) < (x.b.g.len : Int)) = true := decide_eq_true (by omega)
          go_wp2_with fail
          go_ret
          exact ⟨true, rfl, hret2, fun h => absurd h (by decide)⟩
        have hd6 : decide ((100 : Int) < (x.b.g.len : Int)) = false := decide_eq_false (by omega)
        have hst : x.small := ⟨by have := HU.out (by omega); omega, by omega, by omega, by omega⟩
        have hnew := Lib.hid (small_step hsm.out HXX.out hst)
        clear hst
        go_wp2_with fail
        go_roundw
        case rel => exact ⟨j + 1, by omega, by omega, by go_num, hret2, hnew⟩
        case measure => simp [intOf]; omega
      · have hd2 : decide ((j : Int) < 81) = false := decide_eq_false (by omega)
        have hd3 : decide ((80 : Int) < (xs.length : Int)) = true := decide_eq_true (by omega)
        go_wp2_with fail
        go_ret
        exact ⟨true, rfl, hin, fun h => absurd h (by decide)⟩
    · obtain rfl : j = xs.length := by omega
      by_cases h60 : 80 < xs.length
      · have hd3 : decide ((80 : Int) < (xs.length : Int)) = true := decide_eq_true (by omega)
        go_wp2_with fail
        go_ret
        exact ⟨true, rfl, hin, fun h => absurd h (by decide)⟩
      · have hd3 : decide ((80 : Int) < (xs.length : Int)) = false := decide_eq_false (by omega)
        go_wp2_with fail
        go_ret
        exact ⟨false, rfl, hin, fun _ => ⟨by omega, fun k x hk => hsm.out k x (List.getElem?_eq_some_iff.1 hk).1 hk⟩⟩
end Go.Proofs.Ytgpnfgjmdehfdaa
