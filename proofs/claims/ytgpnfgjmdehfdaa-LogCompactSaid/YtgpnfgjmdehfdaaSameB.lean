/- Alike configurations, bases, entries are found alike. -/
import Derived.Test.YtgpnfgjmdehfdaaSameA
namespace Go.Proofs.Ytgpnfgjmdehfdaa
set_option linter.unusedVariables false
set_option linter.unusedSimpArgs false
open Go.RowKit Go.Proofs.YtgpnfgjmdehfdaaW.PrintWords

set_option maxHeartbeats 400000 in
theorem sameConfig_any {x : Cfg} {cs ds : List Value} {w : World} (hA : cfgK.K w x cs) (hB : cfgK.K w x ds) :
    Calls Try.prog 18 #[.agg cs.toArray, .agg ds.toArray] w fun e w' => e = .returned (.bool true) ∧ In w w' := by
  obtain ⟨A0, c0, A1, c1, A2, c2, A3, c3, rfl, l0, g0, l1, g1, l2, g2, l3, g3⟩ := cfgK_open hA
  obtain ⟨B0, d0, B1, d1, B2, d2, B3, d3, rfl, m0, h0, m1, h1, m2, h2, m3, h3⟩ := cfgK_open hB
  have HX := Lib.hid (And.intro g0 (And.intro h0 (And.intro g1 (And.intro h1 (And.intro g2 (And.intro h2 (And.intro g3 h3)))))))
  clear hA hB g0 h0 g1 h1 g2 h2 g3 h3
  go_enter Try.func18, Try.ntmps18
  go_wp2_with fail
  refine (sameInts_any (Kd.C_below HX.out.1 (by repeat (first | (with_reducible first | exact Below.refl _ _ | assumption | apply below_alloc | apply pw_below_drewN | apply below_drew1)))) (Kd.C_below HX.out.2.1 (by repeat (first | (with_reducible first | exact Below.refl _ _ | assumption | apply below_alloc | apply pw_below_drewN | apply below_drew1))))).mono ?_
  rintro e w1 ⟨rfl, ⟨n, rfl⟩⟩
  go_wp2_with fail
  refine (sameInts_any (Kd.C_below HX.out.2.2.1 (by repeat (first | (with_reducible first | exact Below.refl _ _ | assumption | apply below_alloc | apply pw_below_drewN | apply below_drew1)))) (Kd.C_below HX.out.2.2.2.1 (by repeat (first | (with_reducible first | exact Below.refl _ _ | assumption | apply below_alloc | apply pw_below_drewN | apply below_drew1))))).mono ?_
  rintro e w1 ⟨rfl, ⟨n2, rfl⟩⟩
  go_wp2_with fail
  refine (sameInts_any (Kd.C_below HX.out.2.2.2.2.1 (by repeat (first | (with_reducible first | exact Below.refl _ _ | assumption | apply below_alloc | apply pw_below_drewN | apply below_drew1)))) (Kd.C_below HX.out.2.2.2.2.2.1 (by repeat (first | (with_reducible first | exact Below.refl _ _ | assumption | apply below_alloc | apply pw_below_drewN | apply below_drew1))))).mono ?_
  rintro e w1 ⟨rfl, ⟨n3, rfl⟩⟩
  go_wp2_with fail
  refine (sameInts_any (Kd.C_below HX.out.2.2.2.2.2.2.1 (by repeat (first | (with_reducible first | exact Below.refl _ _ | assumption | apply below_alloc | apply pw_below_drewN | apply below_drew1)))) (Kd.C_below HX.out.2.2.2.2.2.2.2 (by repeat (first | (with_reducible first | exact Below.refl _ _ | assumption | apply below_alloc | apply pw_below_drewN | apply below_drew1))))).mono ?_
  rintro e w1 ⟨rfl, ⟨n4, rfl⟩⟩
  go_wp2_with fail
  go_ret
  exact ⟨rfl, (by unfold In; repeat (first | (with_reducible first | exact Below.refl _ _ | assumption | apply below_alloc | apply pw_below_drewN | apply below_drew1)))⟩
set_option maxHeartbeats 400000 in
theorem sameBase_any {x : Bas} {cs ds : List Value} {w : World} (hA : basK.K w x cs) (hB : basK.K w x ds) :
    Calls Try.prog 23 #[.agg cs.toArray, .agg ds.toArray] w fun e w' => e = .returned (.bool true) ∧ In w w' := by
  obtain ⟨A0, c0, A1, c1, A2, c2, A3, c3, rfl, l0, g0, l1, g1, l2, g2, l3, g3⟩ := basK_open hA
  obtain ⟨B0, d0, B1, d1, B2, d2, B3, d3, rfl, m0, h0, m1, h1, m2, h2, m3, h3⟩ := basK_open hB
  have HA := Lib.hid (cfgK_mk (x := x.g) l0 g0 l1 g1 l2 g2 l3 g3)
  have HB := Lib.hid (cfgK_mk (x := x.g) m0 h0 m1 h1 m2 h2 m3 h3)
  clear hA hB g0 h0 g1 h1 g2 h2 g3 h3
  go_enter Try.func23, Try.ntmps23
  go_wp2_with fail
  refine (sameConfig_any (cfgK.K_below (by repeat (first | (with_reducible first | exact Below.refl _ _ | assumption | apply below_alloc | apply pw_below_drewN | apply below_drew1))) HA.out) (cfgK.K_below (by repeat (first | (with_reducible first | exact Below.refl _ _ | assumption | apply below_alloc | apply pw_below_drewN | apply below_drew1))) HB.out)).mono ?_
  rintro e w1 ⟨rfl, hb1⟩
  go_wp2_with fail
  go_ret
  exact ⟨rfl, In.next (by unfold In; repeat (first | (with_reducible first | exact Below.refl _ _ | assumption | apply below_alloc | apply pw_below_drewN | apply below_drew1))) hb1⟩
set_option maxHeartbeats 400000 in
theorem sameEntry_any {x : Ent} {cs ds : List Value} {w : World} (hA : entK.K w x cs) (hB : entK.K w x ds) :
    Calls Try.prog 50 #[.agg cs.toArray, .agg ds.toArray] w fun e w' => e = .returned (.bool true) ∧ In w w' := by
  obtain ⟨A, c, A0, c0, A1, c1, A2, c2, A3, c3, rfl, l, g, l0, g0, l1, g1, l2, g2, l3, g3⟩ := entK_open hA
  obtain ⟨B, d, B0, d0, B1, d1, B2, d2, B3, d3, rfl, m, h, m0, h0, m1, h1, m2, h2, m3, h3⟩ := entK_open hB
  have HA := Lib.hid (cfgK_mk (x := x.g) l0 g0 l1 g1 l2 g2 l3 g3)
  have HB := Lib.hid (cfgK_mk (x := x.g) m0 h0 m1 h1 m2 h2 m3 h3)
  have HC := Lib.hid g
  have HD := Lib.hid h
  clear hA hB g h g0 h0 g1 h1 g2 h2 g3 h3
  go_enter Try.func50, Try.ntmps50
  go_wp2_with fail
  refine (sameBytes_any (Kd.C_below HC.out (by repeat (first | (with_reducible first | exact Below.refl _ _ | assumption | apply below_alloc | apply pw_below_drewN | apply below_drew1)))) (Kd.C_below HD.out (by repeat (first | (with_reducible first | exact Below.refl _ _ | assumption | apply below_alloc | apply pw_below_drewN | apply below_drew1))))).mono ?_
  rintro e w1 ⟨rfl, ⟨n, rfl⟩⟩
  go_wp2_with fail
  refine (sameConfig_any (cfgK.K_below (by repeat (first | (with_reducible first | exact Below.refl _ _ | assumption | apply below_alloc | apply pw_below_drewN | apply below_drew1))) HA.out) (cfgK.K_below (by repeat (first | (with_reducible first | exact Below.refl _ _ | assumption | apply below_alloc | apply pw_below_drewN | apply below_drew1))) HB.out)).mono ?_
  rintro e w1 ⟨rfl, hb1⟩
  go_wp2_with fail
  go_ret
  exact ⟨rfl, In.next (by unfold In; repeat (first | (with_reducible first | exact Below.refl _ _ | assumption | apply below_alloc | apply pw_below_drewN | apply below_drew1))) hb1⟩
set_option maxHeartbeats 400000 in
theorem sameImage_any {x : Img} {cs ds : List Value} {w : World} (hA : imgK.K w x cs) (hB : imgK.K w x ds) :
    Calls Try.prog 44 #[.agg cs.toArray, .agg ds.toArray] w fun e w' => e = .returned (.bool true) ∧ In w w' := by
  obtain ⟨A0, c0, A1, c1, A2, c2, A3, c3, A, c, rfl, l0, g0, l1, g1, l2, g2, l3, g3, l, g⟩ := imgK_open hA
  obtain ⟨B0, d0, B1, d1, B2, d2, B3, d3, B, d, rfl, m0, h0, m1, h1, m2, h2, m3, h3, m, h⟩ := imgK_open hB
  have HA := Lib.hid (basK_mk (x := x.b) l0 g0 l1 g1 l2 g2 l3 g3)
  have HB := Lib.hid (basK_mk (x := x.b) m0 h0 m1 h1 m2 h2 m3 h3)
  have HC := Lib.hid g
  have HD := Lib.hid h
  clear hA hB g h g0 h0 g1 h1 g2 h2 g3 h3
  go_enter Try.func44, Try.ntmps44
  go_wp2_with fail
  refine (sameBase_any (basK.K_below (by repeat (first | (with_reducible first | exact Below.refl _ _ | assumption | apply below_alloc | apply pw_below_drewN | apply below_drew1))) HA.out) (basK.K_below (by repeat (first | (with_reducible first | exact Below.refl _ _ | assumption | apply below_alloc | apply pw_below_drewN | apply below_drew1))) HB.out)).mono ?_
  rintro e w1 ⟨rfl, hb1⟩
  have hin : In w w1 := In.next (by unfold In; repeat (first | (with_reducible first | exact Below.refl _ _ | assumption | apply below_alloc | apply pw_below_drewN | apply below_drew1))) hb1
  have hc1 := (bcell hb1).1
  go_wp2_with fail
  refine (sameBytes_any (Kd.C_below HC.out hin.out) (Kd.C_below HD.out hin.out)).mono ?_
  rintro e w2 ⟨rfl, ⟨n, rfl⟩⟩
  go_wp2_with fail
  go_ret
  exact ⟨rfl, In.drewN hin _⟩
end Go.Proofs.Ytgpnfgjmdehfdaa
