/- A part of the proofs over package sum and its reference: the walks, or what they lean on. -/
import Derived.Test.YtkoofoglcheonaaLawA
namespace Go.Proofs.Ytkoofoglcheonaa
set_option linter.unusedVariables false
set_option linter.unusedSimpArgs false
open Go.RowKit Go.Proofs.YtkoofoglcheonaaW.PrintWords

set_option maxRecDepth 100000 in
set_option maxHeartbeats 800000 in
theorem sumTells_any (A : Option Addr) (c s : Nat) (xss : List (List UInt8)) (w : World) (hs : s < 4294967296) (hA : bytes.C w A xss.length xss) (hn : xss.length ≤ 200000000000000) (hrl : ∀ xs ∈ xss, xs.length ≤ 200000000000000) :
    Calls Try.prog 3 #[.slice A xss.length c, .int .u32 s] w fun e w' => e = .returned (.bool true) ∧ Below w.heap.size w w' := by
  have hG := Lib.hid (great_any A c xss w hA hn hrl)
  go_enter Try.func3, Try.ntmps3
  go_wp2_with fail
  refine hG.out.mono ?_
  rintro e w1 ⟨b, rfl, rfl, hsm⟩
  cases b with
  | true =>
    clear hsm
    go_wp2_with fail
    refine (awake_any _).mono ?_
    rintro e w2 ⟨rfl, hb2⟩
    go_wp2_with fail
    go_ret
    exact ⟨rfl, hb2⟩
  | false =>
    have hsm1 := hsm rfl
    unfold total at hsm1
    have HSM := Lib.hid hsm1
    clear hsm hsm1
    go_wp2_with fail
    refine (lentRows_any A c xss _ hA (by have := HSM.out; omega)).mono ?_
    rintro e w2 ⟨v, rfl, hL, hb2⟩
    obtain ⟨A2, c2, rfl, hle2, hC2⟩ := hL.reads
    have HL := Lib.hid hL
    clear hL
    go_wp2_with fail
    refine (sum_any A2 _ c2 xss _ hC2).mono ?_
    rintro e w3 ⟨rfl, hb3⟩
    have hb3' := below_then hb2 hb2.size hb3
    go_wp2_with fail
    refine (rsum_any A _ c xss _ (Kd.C_below hA hb3') (by have := HSM.out; omega)).mono ?_
    rintro e w4 ⟨rfl, hb4⟩
    have hb4' := below_then hb3' hb3'.size hb4
    go_wp2_with fail
    refine (more_any s A2 _ c2 xss _ hs (Kd.C_below hC2 (below_then hb3 hb3.size hb4))).mono ?_
    rintro e w5 ⟨rfl, hb5⟩
    have hb5' := below_then hb4' hb4'.size hb5
    go_wp2_with fail
    refine (rmore_any s A _ c xss _ hs (Kd.C_below hA hb5')).mono ?_
    rintro e w6 ⟨rfl, rfl⟩
    go_wp2_with fail
    have hb25 := below_then (below_then hb3 hb3.size hb4) (below_then hb3 hb3.size hb4).size hb5
    refine (keptRows_any _ _ A c xss _ (HL.out.below hb25) (Kd.C_below hA hb5') (by have := HSM.out; omega)).mono ?_
    rintro e w7 ⟨rfl, m, rfl⟩
    have hb7 := pw_below_drewN hb5' m
    go_wp2_with fail
    refine (awake_any _).mono ?_
    rintro e w8 ⟨rfl, hb8⟩
    have hb8' := below_then hb7 hb7.size hb8
    go_wp2_with fail
    go_ret
    exact ⟨rfl, hb8'⟩
end Go.Proofs.Ytkoofoglcheonaa
