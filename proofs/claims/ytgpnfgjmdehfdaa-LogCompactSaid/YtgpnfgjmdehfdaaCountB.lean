/- How much a letter is; are letters, acts too great? -/
import Derived.Test.YtgpnfgjmdehfdaaCountA
namespace Go.Proofs.Ytgpnfgjmdehfdaa
set_option linter.unusedVariables false
set_option linter.unusedSimpArgs false
open Go.RowKit Go.Proofs.YtgpnfgjmdehfdaaW.PrintWords

def Let.len (x : Let) : Nat := 1 + x.y.length / 8 + x.b.g.len + entsOf x.es
def Let.fits (x : Let) : Prop := x.y.length ≤ 200000000000000 ∧ x.b.g.fits ∧ entsFit x.es
theorem Cfg.len_le {g : Cfg} (h : g.fits) : g.len ≤ 800000000000001 := by
  obtain ⟨f1, f2, f3, f4⟩ := h
  unfold Cfg.len
  omega
set_option maxRecDepth 100000 in
set_option maxHeartbeats 800000 in
theorem letterOf_any {x : Let} {cs : List Value} {w : World} (most : Nat) (hmost : most ≤ 1000000) (hA : letK.K w x cs) (hf : x.fits) :
    Calls Try.prog 60 #[.agg cs.toArray, .int .i64 most] w fun e w' => ∃ n : Nat, e = .returned (.int .i64 n) ∧ In w w' ∧ n ≤ 4000000000000000 ∧ upTo n most x.len := by
  have kb := box_cells w cs 61
  have HB := Below.refl (w.alloc (.cells cs.toArray 61)).heap.size (w.alloc (.cells cs.toArray 61))
  have hwo : In w (w.alloc (.cells cs.toArray 61)) := In.alloc (In.refl w) _
  obtain ⟨A9, c9, A12, c12, A13, c13, A14, c14, A15, c15, A19, c19, rfl, l9, g9, l12, g12, l13, g13, l14, g14, l15, g15, l19, g19⟩ := letK_open hA
  obtain ⟨f0, f1, f2⟩ := hf
  have hcl := Cfg.len_le f1
  have HC := Lib.hid (cfgK_mk (x := x.b.g) l12 g12 l13 g13 l14 g14 l15 g15)
  have HE := Lib.hid g9
  have HF := Lib.hid f1
  have HG := Lib.hid f2
  have hel := Lib.hid (show x.len = 1 + x.y.length / 8 + x.b.g.len + entsOf x.es from rfl)
  clear hA g9 g12 g13 g14 g15 g19 f1 f2
  go_enter Try.func60, Try.ntmps60
  go_wp2_with fail
  generalize w.alloc (.cells _ 61) = wo at *
  have hwa : IntKind.i64.wrap ((x.y.length : Int) / 8) = (x.y.length : Int) / 8 := IntWalk.i64_in _ (by omega)
  have hwb : IntKind.i64.wrap (1 + (x.y.length : Int) / 8) = 1 + (x.y.length : Int) / 8 := IntWalk.i64_in _ (by omega)
  have hwc : IntKind.i64.wrap (1 + (x.y.length : Int) / 8 + (x.b.g.len : Int)) = 1 + (x.y.length : Int) / 8 + (x.b.g.len : Int) := IntWalk.i64_in _ (by omega)
  go_region_held3 (fun w' => In wo w') (first | exact In.drew (In.refl _) | exact In.alloc (by assumption) _ | exact In.next (by assumption) (by assumption))
    (first
      | (go_at_call 27; (with_reducible refine Calls.mono (configOf_any (x := x.b.g) (cfgK.K_below (hwo.trans (by assumption)).out HC.out) HF.out) ?_); rintro e w1 ⟨rfl, hb1⟩)
      | (go_at_call 51; (with_reducible refine Calls.mono (entriesOf_any (xs := x.es) most hmost (Kd.C_below HE.out (hwo.trans (by assumption)).out) HG.out) ?_); rintro e w1 ⟨m, rfl, hb1, hm1, hm2⟩))
  all_goals
    have hwd : IntKind.i64.wrap (1 + (x.y.length : Int) / 8 + (x.b.g.len : Int) + (m : Int)) = ((1 + x.y.length / 8 + x.b.g.len + m : Nat) : Int) := by
      rw [IntWalk.i64_in _ (by omega)]
      omega
    have hin := hwo.trans (show In wo w1 by assumption)
    have HU := Lib.hid hm2
    clear hm2 kb
    go_wp2_with fail
    go_ret
    refine ⟨1 + x.y.length / 8 + x.b.g.len + m, ?_, hin, by omega, fun h => by rw [hel.out, HU.out (by omega)]⟩
    exact congrArg (fun v : Int => Ending.returned (.int .i64 v)) hwd
def orElse_ (b : Bool) (p : Prop) : Prop := b = false → p
def smallLets (l : List Let) : Prop := l.length ≤ 60 ∧ ∀ (j : Nat) (x : Let), l[j]? = some x → x.len ≤ 8000
theorem size61 : (Try.prog.info? 61).map (·.size) = some letK.sz := by kernel_rfl
set_option maxRecDepth 100000 in
set_option maxHeartbeats 800000 in
theorem great13_any {A : Option Addr} {c : Nat} {xs : List Let} {w : World} (hA : letK.C w A xs.length xs) (hf : ∀ (j : Nat) (x : Let), xs[j]? = some x → x.fits) :
    Calls Try.prog 26 #[.slice A xs.length c] w fun e w' => ∃ b : Bool, e = .returned (.bool b) ∧ In w w' ∧ orElse_ b (smallLets xs) := by
  have hm := hA.2.1
  have HA := Lib.hid hA
  have HF := Lib.hid hf
  clear hA hf
  go_enter Try.func26, Try.ntmps26
  go_wp2_with fail
  go_loopw [3] (fun i wr => ∃ j : Nat, j ≤ xs.length ∧ j ≤ 61 ∧ i = .int .i64 j ∧ In w wr ∧ Hid (∀ (k : Nat) (x : Let), k < j → xs[k]? = some x → x.len ≤ 8000)) (fun i _ => xs.length - (intOf i).toNat)
  case atStart => exact ⟨0, by omega, by omega, rfl, In.refl _, Lib.hid (fun k x hk _ => absurd hk (by omega))⟩
  case round =>
    obtain ⟨j, hj, hj61, rfl, hin, hsm⟩ := hrel
    by_cases hl : j < xs.length
    · have hd1 : decide ((j : Int) < (xs.length : Int)) = true := decide_eq_true (by omega)
      by_cases hle : j < 61
      · have hd2 : decide ((j : Int) < 61) = true := decide_eq_true (by omega)
        obtain ⟨ad, x, cs, rfl, hx, hK, hlen, hcs⟩ := row_get (Kd.C_below HA.out hin.out) hl
        have HX := Lib.hid hK
        have HG := Lib.hid (HF.out j x hx)
        have HXX := Lib.hid hx
        have HCS := Lib.hid hcs
        have hlen' : (Try.prog.info? 61).map (·.size) = some cs.length := by rw [hlen]; exact size61
        clear hx hK hcs HA
        go_wp2_with (refine wpList_load_any rfl 61 _ rfl (ad.add (j * 20)) rfl cs _ HCS.out Try.underlying61 rfl hlen' ?_)
        refine (letterOf_any (x := x) 8000 (by omega) HX.out HG.out).mono ?_
        rintro e w1 ⟨n, rfl, hb1, hn, hu⟩
        have HU := Lib.hid hu
        clear hu
        by_cases hbig : 8000 < n
        · have hd3 : decide ((8000 : Int) < (n : Int)) = true := decide_eq_true (by omega)
          go_wp2_with fail
          go_ret
          exact ⟨true, rfl, hin.trans hb1, fun h => absurd h (by decide)⟩
        · have hd3 : decide ((8000 : Int) < (n : Int)) = false := decide_eq_false (by omega)
          go_wp2_with fail
          go_roundw
          case rel =>
            refine ⟨j + 1, by omega, by omega, by go_num, hin.trans hb1, Lib.hid (fun k y hk hy => ?_)⟩
            rcases Nat.lt_or_ge k j with h | h
            · exact hsm.out k y h hy
            · obtain rfl : k = j := by omega
              rw [HXX.out] at hy
              obtain rfl := Option.some.inj hy
              have := HU.out (by omega)
              omega
          case measure => simp [intOf]; omega
      · have hd2 : decide ((j : Int) < 61) = false := decide_eq_false (by omega)
        have hd3 : decide ((60 : Int) < (xs.length : Int)) = true := decide_eq_true (by omega)
        go_wp2_with fail
        go_ret
        exact ⟨true, rfl, hin, fun h => absurd h (by decide)⟩
    · obtain rfl : j = xs.length := by omega
      by_cases h60 : 60 < xs.length
      · have hd3 : decide ((60 : Int) < (xs.length : Int)) = true := decide_eq_true (by omega)
        go_wp2_with fail
        go_ret
        exact ⟨true, rfl, hin, fun h => absurd h (by decide)⟩
      · have hd3 : decide ((60 : Int) < (xs.length : Int)) = false := decide_eq_false (by omega)
        go_wp2_with fail
        go_ret
        exact ⟨false, rfl, hin, fun _ => ⟨by omega, fun k x hk => hsm.out k x (List.getElem?_eq_some_iff.1 hk).1 hk⟩⟩
end Go.Proofs.Ytgpnfgjmdehfdaa
