/- The walk of LogNil. -/
import Derived.Test.YtgpnfgjmdehfdaaNoLog
namespace Go.Proofs.Ytgpnfgjmdehfdaa
set_option linter.unusedVariables false
set_option linter.unusedSimpArgs false
open Go.RowKit Go.Proofs.YtgpnfgjmdehfdaaW.PrintWords

theorem size29 : (Try.prog.info? 29).map (·.size) = some 9 := by kernel_rfl
theorem one_row {α : Type} {d : Kd α} {W : World} {x : α} {cs : List Value} {e : TypeId} (h : d.K W x cs) : d.C (W.alloc (.cells cs.toArray e)) (some ⟨W.heap.size, 0, none⟩) 1 [x] := by
  refine ⟨rfl, by omega, fun _ => ⟨_, rfl, fun j p hp => ?_⟩⟩
  match j, hp with
  | 0, hp =>
    cases hp
    refine ⟨cs, d.K_len h, d.K_below (below_alloc (Below.refl _ _) _) h, fun i u hu => ?_⟩
    rw [Nat.zero_mul, Nat.zero_add, add_plain]
    have := box_cells W cs e _ (In.refl _) i
    rw [hu] at this
    exact this
set_option maxRecDepth 100000 in
set_option maxHeartbeats 3200000 in
theorem logNil_any (hawake : ∀ w, Calls Try.prog 11 #[] w fun e w' => e = .returned (.bool true) ∧ In w w') {x : Act10} {cs : List Value} {w : World} (hA : actK.K w x cs) (hf : x.fits) :
    Calls Try.prog 3 #[.agg cs.toArray] w fun e w' => e = .returned (.bool true) ∧ In w w' := by
  have HK := Lib.hid hA
  obtain ⟨A2, c2, A5, c5, A6, c6, A7, c7, A8, c8, rfl, l2, g2, l5, g5, l6, g6, l7, g7, l8, g8⟩ := actK_open hA
  have HB := Lib.hid (basK_mk (x := x.b) l5 g5 l6 g6 l7 g7 l8 g8)
  have HE := Lib.hid g2
  clear hA g2 g5 g6 g7 g8
  have kb := box_cells w [.int .i64 x.k, .int .i64 x.index, .slice A2 x.es.length c2, .int .i64 x.b.i, .int .i64 x.b.t, .slice A5 x.b.g.v.length c5, .slice A6 x.b.g.o.length c6, .slice A7 x.b.g.l.length c7, .slice A8 x.b.g.w.length c8] 29
  have hwo := In.alloc (In.refl w) (.cells #[.int .i64 x.k, .int .i64 x.index, .slice A2 x.es.length c2, .int .i64 x.b.i, .int .i64 x.b.t, .slice A5 x.b.g.v.length c5, .slice A6 x.b.g.o.length c6, .slice A7 x.b.g.l.length c7, .slice A8 x.b.g.w.length c8] 29)
  go_enter Try.func3, Try.ntmps3
  go_upto_region 1 with (fail)
  generalize w.alloc (.cells #[.int .i64 x.k, .int .i64 x.index, .slice A2 x.es.length c2, .int .i64 x.b.i, .int .i64 x.b.t, .slice A5 x.b.g.v.length c5, .slice A6 x.b.g.o.length c6, .slice A7 x.b.g.l.length c7, .slice A8 x.b.g.w.length c8] 29) = wo at *
  have b0 : ∀ w', In wo w' → w'.cell? ⟨w.heap.size, 0, none⟩ = some (.int .i64 x.k) := fun w' h => kb w' h 0
  have b1 : ∀ w', In wo w' → w'.cell? ⟨w.heap.size, 1, none⟩ = some (.int .i64 x.index) := fun w' h => kb w' h 1
  have b2 : ∀ w', In wo w' → w'.cell? ⟨w.heap.size, 2, none⟩ = some (.slice A2 x.es.length c2) := fun w' h => kb w' h 2
  have b3 : ∀ w', In wo w' → w'.cell? ⟨w.heap.size, 3, none⟩ = some (.int .i64 x.b.i) := fun w' h => kb w' h 3
  have b4 : ∀ w', In wo w' → w'.cell? ⟨w.heap.size, 4, none⟩ = some (.int .i64 x.b.t) := fun w' h => kb w' h 4
  have b5 : ∀ w', In wo w' → w'.cell? ⟨w.heap.size, 5, none⟩ = some (.slice A5 x.b.g.v.length c5) := fun w' h => kb w' h 5
  have b6 : ∀ w', In wo w' → w'.cell? ⟨w.heap.size, 6, none⟩ = some (.slice A6 x.b.g.o.length c6) := fun w' h => kb w' h 6
  have b7 : ∀ w', In wo w' → w'.cell? ⟨w.heap.size, 7, none⟩ = some (.slice A7 x.b.g.l.length c7) := fun w' h => kb w' h 7
  have b8 : ∀ w', In wo w' → w'.cell? ⟨w.heap.size, 8, none⟩ = some (.slice A8 x.b.g.w.length c8) := fun w' h => kb w' h 8
  have HKB := Lib.hid kb
  clear kb
  go_wp2_with fail
  refine (hawake wo).mono ?_
  rintro e w1 ⟨rfl, hb1⟩
  have hin1 : In wo w1 := hb1
  have HC := Lib.hid (show CellsAt w1 ⟨w.heap.size, 0, none⟩ [.int .i64 x.k, .int .i64 x.index, .slice A2 x.es.length c2, .int .i64 x.b.i, .int .i64 x.b.t, .slice A5 x.b.g.v.length c5, .slice A6 x.b.g.o.length c6, .slice A7 x.b.g.l.length c7, .slice A8 x.b.g.w.length c8] from fun i v hv => by rw [add_plain, HKB.out w1 hb1 i]; exact hv)
  clear b0 b1 b2 b3 b4 b5 b6 b7 b8
  go_wp2_with (refine wpList_load_any rfl 29 (.tmp 1) rfl ⟨w.heap.size, 0, none⟩ rfl [.int .i64 x.k, .int .i64 x.index, .slice A2 x.es.length c2, .int .i64 x.b.i, .int .i64 x.b.t, .slice A5 x.b.g.v.length c5, .slice A6 x.b.g.o.length c6, .slice A7 x.b.g.l.length c7, .slice A8 x.b.g.w.length c8] _ HC.out Try.underlying29 rfl size29 ?_)
  refine (great10_any (xs := [x]) (one_row (actK.K_below (hwo.trans hin1).out HK.out)) (fun j y hy => by
    match j, hy with
    | 0, hy => cases hy; exact hf)).mono ?_
  rintro e w2 ⟨b, rfl, hb2, _⟩
  have hin2 : In w w2 := (hwo.trans (In.alloc hin1 _)).trans hb2
  cases b with
  | true =>
    go_wp2_with fail
    go_ret
    exact ⟨rfl, hin2⟩
  | false =>
    go_upto_region 7 with (fail)
    have hq := blk_alloc (blk_new w2 (.cells #[.int .i64 0, .int .i64 0, .slice none 0 0, .slice none 0 0, .slice none 0 0, .slice none 0 0, .bool false, .slice none 0 0] 37)) (.cells #[.pointer none, .pointer (some ⟨w2.heap.size, 0, none⟩)] 33)
    have hr := blk_new (w2.alloc (.cells #[.int .i64 0, .int .i64 0, .slice none 0 0, .slice none 0 0, .slice none 0 0, .slice none 0 0, .bool false, .slice none 0 0] 37)) (.cells #[.pointer none, .pointer (some ⟨w2.heap.size, 0, none⟩)] 33)
    rw [show (w2.alloc (.cells #[.int .i64 0, .int .i64 0, .slice none 0 0, .slice none 0 0, .slice none 0 0, .slice none 0 0, .bool false, .slice none 0 0] 37)).heap.size = w2.heap.size + 1 from by simp] at hr
    have hins := In.alloc (In.alloc (In.refl w2) (.cells #[.int .i64 0, .int .i64 0, .slice none 0 0, .slice none 0 0, .slice none 0 0, .slice none 0 0, .bool false, .slice none 0 0] 37)) (.cells #[.pointer none, .pointer (some ⟨w2.heap.size, 0, none⟩)] 33)
    generalize (w2.alloc (.cells #[.int .i64 0, .int .i64 0, .slice none 0 0, .slice none 0 0, .slice none 0 0, .slice none 0 0, .bool false, .slice none 0 0] 37)).alloc (.cells #[.pointer none, .pointer (some ⟨w2.heap.size, 0, none⟩)] 33) = ws at *
    have hrow : ∀ j : Nat, j < 2 → ∃ v, ws.cell? ⟨w2.heap.size + 1, j, none⟩ = some v ∧ NoLog ws v := fun j hj => by
      match j, hj with
      | 0, _ => exact ⟨.pointer none, blk_cell hr 0, .inl rfl⟩
      | 1, _ => exact ⟨.pointer (some ⟨w2.heap.size, 0, none⟩), blk_cell hr 1, .inr ⟨_, rfl, blk_cell hq 6⟩⟩
    have HROW := Lib.hid hrow
    have hinS : In wo ws := ((In.alloc hin1 (.cells [.int .i64 x.k, .int .i64 x.index, .slice A2 x.es.length c2, .int .i64 x.b.i, .int .i64 x.b.t, .slice A5 x.b.g.v.length c5, .slice A6 x.b.g.o.length c6, .slice A7 x.b.g.l.length c7, .slice A8 x.b.g.w.length c8].toArray 29)).trans hb2).trans hins
    have hinW : In w ws := hin2.trans hins
    have HB1 := Lib.hid (fun w' (h : In ws w') => HKB.out w' (hinS.trans h))
    clear hq hr hrow
    go_wp2_with fail
    go_loopw [5] (fun i wr => ∃ j : Nat, j ≤ 2 ∧ i = .int .i64 j ∧ In ws wr) (fun i _ => 2 - (intOf i).toNat)
    case atStart => exact ⟨0, by omega, rfl, In.refl _⟩
    case round =>
      obtain ⟨j, hj, rfl, hin⟩ := hrel
      by_cases hl : j < 2
      · have hd : decide ((j : Int) < 2) = true := decide_eq_true (by omega)
        obtain ⟨v, hv, hno⟩ := HROW.out j hl
        have hv1 := In.cell hv hin
        have HNO := Lib.hid (NoLog.in_ hno hin)
        have hk := HB1.out wr hin
        have k1 : wr.cell? ⟨w.heap.size, 1, none⟩ = some (.int .i64 x.index) := hk 1
        have k2 : wr.cell? ⟨w.heap.size, 2, none⟩ = some (.slice A2 x.es.length c2) := hk 2
        clear hv hno hk
        obtain ⟨w9, n9, rfl⟩ : ∃ (w9 : World) (n9 : Nat), wr = w9.drewN n9 := ⟨wr, 0, rfl⟩
        replace hv1 : w9.cell? ⟨w2.heap.size + 1, j, none⟩ = some v := hv1
        replace k1 : w9.cell? ⟨w.heap.size, 1, none⟩ = some (.int .i64 x.index) := k1
        replace k2 : w9.cell? ⟨w.heap.size, 2, none⟩ = some (.slice A2 x.es.length c2) := k2
        have hj0 : (0 : Int) ≤ (j : Int) := Int.natCast_nonneg _
        have hj1 : (j : Int) < 2 := by omega
        go_wp2_with fail
        go_quiet ((go_at_call 13; exact quiet_same (take_no _ HNO.out.more)))
        go_wp2_with fail
        refine (term_no 0 (NoLog.in_ HNO.out (by rw [← World.drewN_drewN]; exact In.drewN (In.refl _) _))).mono ?_
        rintro e w3 ⟨rfl, rfl⟩
        go_upto_region 12 with (fail)
        have hinq : In ws (w9.drewN (n9 + nq)) := by rw [← World.drewN_drewN]; exact In.drewN hin _
        have HNQ := Lib.hid (NoLog.in_ HNO.out (show In (w9.drewN n9) (w9.drewN (n9 + nq)) by rw [← World.drewN_drewN]; exact In.drewN (In.refl _) _))
        have kq := In.cells (show (w9.drewN (n9 + nq)).cell? ⟨w2.heap.size + 1, j, none⟩ = some v from hv1)
        have kq1 := In.cells (show (w9.drewN (n9 + nq)).cell? ⟨w.heap.size, 1, none⟩ = some (.int .i64 x.index) from k1)
        clear hv1 k1 k2 hin HNO
        generalize w9.drewN (n9 + nq) = wq at *
        go_region_held3 (fun w' => In wq w') (first | exact In.drew (In.refl _) | exact In.next (by assumption) (by assumption) | exact In.alloc (by assumption) _ | (repeat (first | exact In.alloc (by assumption) _ | assumption | (refine In.set ?_ ?_ _ _; rotate_left; · exact In.size (by assumption)))))
          (first
            | (go_at_call 15; (with_reducible refine Calls.mono (at_no _ (NoLog.in_ HNQ.out (by assumption))) ?_); rintro e w1 ⟨rfl, rfl⟩))
        all_goals
          generalize hZ : World.drew _ = wz
          have hzq : Below wq.heap.size wq wz := by
            rw [← hZ]
            exact In.drew (In.alloc (In.alloc (In.refl wq) _) _)
          clear hZ
          have hzs : In ws wz := hinq.trans hzq
          have kz : wz.cell? ⟨w2.heap.size + 1, j, none⟩ = some v := kq wz hzq
          have hl1 : w2.heap.size + 1 < wz.heap.size := World.block_lt_of_cell? wz _ kz
          go_wp2_with fail
          refine (config_no (NoLog.in_ HNQ.out hzq)).mono ?_
          rintro e w5 ⟨rfl, rfl⟩
          have hz5 := In.alloc (In.refl wz) (.cells #[.slice none 0 0, .slice none 0 0, .slice none 0 0, .slice none 0 0] 25)
          have kz5 := In.cell kz hz5
          generalize hZ5 : wz.alloc (.cells #[.slice none 0 0, .slice none 0 0, .slice none 0 0, .slice none 0 0] 25) = w5
          rw [hZ5] at hz5 kz5
          clear hZ5
          go_wp2_with fail
          have hc0 := blk_new w5 (.cells #[.slice none 0 0, .slice none 0 0, .slice none 0 0, .slice none 0 0] 25)
          have hz6 := In.alloc hz5 (.cells #[.slice none 0 0, .slice none 0 0, .slice none 0 0, .slice none 0 0] 25)
          generalize w5.alloc (.cells #[.slice none 0 0, .slice none 0 0, .slice none 0 0, .slice none 0 0] 25) = w6 at *
          have hs6 : In ws w6 := hzs.trans hz6
          have e0 := In.cells (show w6.cell? ⟨w5.heap.size, 0, none⟩ = some (.slice none 0 0) from blk_cell hc0 0)
          have e1 := In.cells (show w6.cell? ⟨w5.heap.size, 1, none⟩ = some (.slice none 0 0) from blk_cell hc0 1)
          have e2 := In.cells (show w6.cell? ⟨w5.heap.size, 2, none⟩ = some (.slice none 0 0) from blk_cell hc0 2)
          have e3 := In.cells (show w6.cell? ⟨w5.heap.size, 3, none⟩ = some (.slice none 0 0) from blk_cell hc0 3)
          have f0 := In.cells (In.cell kz hz6)
          have hk6 := HB1.out w6 hs6
          have f2 := In.cells (show w6.cell? ⟨w.heap.size, 2, none⟩ = some (.slice A2 x.es.length c2) from hk6 2)
          have f3 := In.cells (show w6.cell? ⟨w.heap.size, 3, none⟩ = some (.int .i64 x.b.i) from hk6 3)
          have f4 := In.cells (show w6.cell? ⟨w.heap.size, 4, none⟩ = some (.int .i64 x.b.t) from hk6 4)
          have f5 := In.cells (show w6.cell? ⟨w.heap.size, 5, none⟩ = some (.slice A5 x.b.g.v.length c5) from hk6 5)
          have f6 := In.cells (show w6.cell? ⟨w.heap.size, 6, none⟩ = some (.slice A6 x.b.g.o.length c6) from hk6 6)
          have f7 := In.cells (show w6.cell? ⟨w.heap.size, 7, none⟩ = some (.slice A7 x.b.g.l.length c7) from hk6 7)
          have f8 := In.cells (show w6.cell? ⟨w.heap.size, 8, none⟩ = some (.slice A8 x.b.g.w.length c8) from hk6 8)
          have HN6 := Lib.hid (NoLog.in_ HNQ.out ((show In wq wz from hzq).trans hz6))
          have HB6 := Lib.hid (basK.K_below (hinW.trans hs6).out HB.out)
          have hsf : In ws w6 := hs6
          clear hc0 hk6 kq kq1 kz kz5 hl1 hz5 hz6 hzs hs6 hzq HNQ
          dsimp only [List.append]
          go_region_held3 (fun w' => In w6 w') (first | exact In.drew (In.refl _) | exact In.next (by assumption) (by assumption) | exact In.alloc (by assumption) _ | assumption)
            (first
              | (go_at_call 17; (with_reducible refine Calls.mono (put_no (NoLog.in_ HN6.out (by assumption))) ?_); rintro e w1 ⟨rfl, rfl⟩)
              | (go_at_call 18; (with_reducible refine Calls.mono (sameConfig_any (x := zCfg) (zcfg_K _) (zcfg_K _)) ?_); rintro e w1 ⟨rfl, hby⟩)
              | (go_at_call 19; (with_reducible refine Calls.mono (last_no (NoLog.in_ HN6.out (by assumption))) ?_); rintro e w1 ⟨rfl, rfl⟩)
              | (go_at_call 20; (with_reducible refine Calls.mono (compact_no _ (NoLog.in_ HN6.out (by assumption))) ?_); rintro e w1 ⟨rfl, rfl⟩)
              | (go_at_call 21; (with_reducible refine Calls.mono (install_no (NoLog.in_ HN6.out (by assumption)) (basK.K_below (In.out (by assumption)) HB6.out)) ?_); rintro e w1 ⟨rfl, hby⟩)
              | (go_at_call 22; (with_reducible refine Calls.mono (from_no _ _ (NoLog.in_ HN6.out (by assumption))) ?_); rintro e w1 ⟨rfl, rfl⟩)
              | (go_at_call 24; (with_reducible refine Calls.mono (base_no (NoLog.in_ HN6.out (by assumption))) ?_); rintro e w1 ⟨rfl, rfl⟩)
              | (go_at_call 23; (with_reducible refine Calls.mono (sameBase_any (x := zBas) (zbas_K _) (zbas_K _)) ?_); rintro e w1 ⟨rfl, hby⟩))
          all_goals
            have hzz : In ws w1 := hsf.trans (show In w6 w1 by assumption)
            clear e0 e1 e2 e3 f0 f2 f3 f4 f5 f6 f7 f8 HN6 HB6 hsf
            go_wp2_with fail
            go_roundw
            case rel => exact ⟨j + 1, by omega, by go_num, hzz⟩
            case measure => simp [intOf]; omega
      · obtain rfl : j = 2 := by omega
        go_wp2_with fail
        go_ret
        exact ⟨rfl, hinW.trans hin⟩
end Go.Proofs.Ytgpnfgjmdehfdaa
