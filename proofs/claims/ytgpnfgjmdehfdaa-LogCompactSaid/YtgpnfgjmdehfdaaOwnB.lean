/- A base in memory of its own. -/
import Derived.Test.YtgpnfgjmdehfdaaOwnA
namespace Go.Proofs.Ytgpnfgjmdehfdaa
set_option linter.unusedVariables false
set_option linter.unusedSimpArgs false
open Go.RowKit Go.Proofs.YtgpnfgjmdehfdaaW.PrintWords

theorem In.setRow {W w : World} (h : In W w) {g : Nat} (hg : W.heap.size ≤ g) (c : Array Value) : In W (w.setRow g c) := h.out.trans ⟨rfl, rfl, rfl, by simp, fun i hi => setRow_other _ _ _ _ (by omega)⟩
theorem size27 : (Try.prog.info? 27).map (·.size) = some 6 := by kernel_rfl
set_option maxRecDepth 100000 in
set_option maxHeartbeats 1600000 in
theorem ownBase_any {x : Bas} {cs : List Value} {w : World} (hA : basK.K w x cs) (hl : x.g.len ≤ 1000000000) :
    Calls Try.prog 59 #[.agg cs.toArray] w fun e w' => ∃ ds, e = .returned (.agg ds.toArray) ∧ basK.M w' w.heap.size (fun _ => True) x ds ∧ In w w' := by
  obtain ⟨A0, c0, A1, c1, A2, c2, A3, c3, rfl, l0, g0, l1, g1, l2, g2, l3, g3⟩ := basK_open hA
  have HX := Lib.hid (cfgK_mk (x := x.g) l0 g0 l1 g1 l2 g2 l3 g3)
  clear hA g0 g1 g2 g3
  go_enter Try.func59, Try.ntmps59
  go_wp2_with fail
  refine (ownConfig_any (x := x.g) (cfgK.K_below (by repeat (first | (with_reducible first | exact Below.refl _ _ | assumption | apply below_alloc | apply pw_below_drewN | apply below_drew1))) HX.out) hl).mono ?_
  rintro e w1 ⟨ds, rfl, hm, hb1⟩
  obtain ⟨v0, v1, v2, v3, rfl, m0, m1, m2, m3⟩ := cfgK_openM hm
  obtain ⟨B0, d0, rfl⟩ := Kd.R_slice m0
  obtain ⟨B1, d1, rfl⟩ := Kd.R_slice m1
  obtain ⟨B2, d2, rfl⟩ := Kd.R_slice m2
  obtain ⟨B3, d3, rfl⟩ := Kd.R_slice m3
  have hk0 : w1.heap[w.heap.size]? = some (.cells #[.int .i64 x.i, .int .i64 x.t, .slice A0 x.g.v.length c0, .slice A1 x.g.o.length c1, .slice A2 x.g.l.length c2, .slice A3 x.g.w.length c3] 27 (0, 0)) := blk_below (blk_alloc (blk_new w _) _) hb1
  have hk1 : w1.heap[w.heap.size + 1]? = some (.cells #[.int .i64 0, .int .i64 0, .slice none 0 0, .slice none 0 0, .slice none 0 0, .slice none 0 0] 27 (0, 0)) := by
    refine blk_below ?_ hb1
    have := blk_new (w.alloc (.cells #[.int .i64 x.i, .int .i64 x.t, .slice A0 x.g.v.length c0, .slice A1 x.g.o.length c1, .slice A2 x.g.l.length c2, .slice A3 x.g.w.length c3] 27)) (.cells #[.int .i64 0, .int .i64 0, .slice none 0 0, .slice none 0 0, .slice none 0 0, .slice none 0 0] 27)
    rwa [show (w.alloc (.cells #[.int .i64 x.i, .int .i64 x.t, .slice A0 x.g.v.length c0, .slice A1 x.g.o.length c1, .slice A2 x.g.l.length c2, .slice A3 x.g.w.length c3] 27)).heap.size = w.heap.size + 1 from by simp] at this
  have hc1 := (bcell hb1).1
  have hc2 := (bcell hb1).2
  have hin : In w w1 := In.next (by unfold In; repeat (first | (with_reducible first | exact Below.refl _ _ | assumption | apply below_alloc | apply pw_below_drewN | apply below_drew1))) hb1
  have hbl : In w w1 → True := fun _ => trivial
  have HM := Lib.hid (And.intro (Made.lower (W0 := w) m0 (by unfold In; repeat (first | (with_reducible first | exact Below.refl _ _ | assumption | apply below_alloc | apply pw_below_drewN | apply below_drew1)))) (And.intro (Made.lower (W0 := w) m1 (by unfold In; repeat (first | (with_reducible first | exact Below.refl _ _ | assumption | apply below_alloc | apply pw_below_drewN | apply below_drew1)))) (And.intro (Made.lower (W0 := w) m2 (by unfold In; repeat (first | (with_reducible first | exact Below.refl _ _ | assumption | apply below_alloc | apply pw_below_drewN | apply below_drew1)))) (Made.lower (W0 := w) m3 (by unfold In; repeat (first | (with_reducible first | exact Below.refl _ _ | assumption | apply below_alloc | apply pw_below_drewN | apply below_drew1)))))))
  clear m0 m1 m2 m3 hm hbl
  have hput := blk_put (blk_put (blk_put (blk_put hk0 2 (.slice B0 x.g.v.length d0) rfl) 3 (.slice B1 x.g.o.length d1) rfl) 4 (.slice B2 x.g.l.length d2) rfl) 5 (.slice B3 x.g.w.length d3) rfl
  have hfar := blk_far (p := ⟨w.heap.size, 5, none⟩) (blk_far (p := ⟨w.heap.size, 4, none⟩) (blk_far (p := ⟨w.heap.size, 3, none⟩) (blk_far (p := ⟨w.heap.size, 2, none⟩) hk1 (by simp) (.slice B0 x.g.v.length d0)) (by simp) (.slice B1 x.g.o.length d1)) (by simp) (.slice B2 x.g.l.length d2)) (by simp) (.slice B3 x.g.w.length d3)
  have HP := Lib.hid hput
  have HF := Lib.hid hfar
  have HK := Lib.hid hk0
  clear hput hfar hk1 hk0
  go_upto_region 2 with (fail)
  clear hc1 hc2
  have hmid : ∀ i, i ≠ w.heap.size → ((((w1.setCell ⟨w.heap.size, 2, none⟩ (.slice B0 x.g.v.length d0)).setCell ⟨w.heap.size, 3, none⟩ (.slice B1 x.g.o.length d1)).setCell ⟨w.heap.size, 4, none⟩ (.slice B2 x.g.l.length d2)).setCell ⟨w.heap.size, 5, none⟩ (.slice B3 x.g.w.length d3)).heap[i]? = w1.heap[i]? := fun i hi => by
    rw [Below.heap_setCell _ _ _ i hi, Below.heap_setCell _ _ _ i hi, Below.heap_setCell _ _ _ i hi, Below.heap_setCell _ _ _ i hi]
  have hl := Nat.le_refl w.heap.size
  have hin2 := In.set (In.set (In.set (In.set hin hl 2 (.slice B0 x.g.v.length d0)) hl 3 (.slice B1 x.g.o.length d1)) hl 4 (.slice B2 x.g.l.length d2)) hl 5 (.slice B3 x.g.w.length d3)
  have HD := Lib.hid hmid
  clear hmid
  generalize (((w1.setCell ⟨w.heap.size, 2, none⟩ (.slice B0 x.g.v.length d0)).setCell ⟨w.heap.size, 3, none⟩ (.slice B1 x.g.o.length d1)).setCell ⟨w.heap.size, 4, none⟩ (.slice B2 x.g.l.length d2)).setCell ⟨w.heap.size, 5, none⟩ (.slice B3 x.g.w.length d3) = w2 at *
  go_wp2_with (first
    | (refine wpList_load_row rfl 27 (.tmp 1) rfl w.heap.size rfl 27 #[.int .i64 x.i, .int .i64 x.t, .slice B0 x.g.v.length d0, .slice B1 x.g.o.length d1, .slice B2 x.g.l.length d2, .slice B3 x.g.w.length d3] (0, 0) _ HP.out Try.underlying27 rfl size27 ?_)
    | (refine wpList_store_row rfl 27 (.tmp 2) (.tmp 7) rfl (w.heap.size + 1) #[.int .i64 x.i, .int .i64 x.t, .slice B0 x.g.v.length d0, .slice B1 x.g.o.length d1, .slice B2 x.g.l.length d2, .slice B3 x.g.w.length d3] rfl rfl 27 _ HF.out size27 rfl (by simp [Value.oneCell']) ?_))
  refine bodyPost_ret (results_cell_row rfl _ _ (w.heap.size + 1) 27 #[.int .i64 x.i, .int .i64 x.t, .slice B0 x.g.v.length d0, .slice B1 x.g.o.length d1, .slice B2 x.g.l.length d2, .slice B3 x.g.w.length d3] (0, 0) _ rfl (setRow_heap _ _ _ _ _ _ HF.out) Try.underlying27 rfl size27) rfl ?_
  obtain ⟨m0, m1, m2, m3⟩ := HM.out
  refine ⟨_, rfl, basK_mkM (x := x) (Made.far (Made.far m0 HK.out (by decide) HD.out) HF.out (by decide) (fun i hi => setRow_other _ _ _ _ hi)) (Made.far (Made.far m1 HK.out (by decide) HD.out) HF.out (by decide) (fun i hi => setRow_other _ _ _ _ hi)) (Made.far (Made.far m2 HK.out (by decide) HD.out) HF.out (by decide) (fun i hi => setRow_other _ _ _ _ hi)) (Made.far (Made.far m3 HK.out (by decide) HD.out) HF.out (by decide) (fun i hi => setRow_other _ _ _ _ hi)), ?_⟩
  exact In.setRow hin2 (by omega) _
end Go.Proofs.Ytgpnfgjmdehfdaa
