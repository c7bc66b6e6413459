/- A log's base, and its configuration in force. -/
import Derived.Test.YtgpnfgjmdehfdaaLogC
namespace Go.Proofs.Ytgpnfgjmdehfdaa
set_option linter.unusedVariables false
set_option linter.unusedSimpArgs false
open Go.RowKit Go.Proofs.YtgpnfgjmdehfdaaW.PrintWords

theorem bas_E (t : Nat) (ht : 3 ≠ t) : ∀ q, q ∈ basK.E → q ≠ t := fun q hq => by
  have : q = 3 := by simpa [basK, cfgK, Kd.iso, Kd.pair, Kd.slice, Kd.int, Kd.scalar] using hq
  omega
set_option maxRecDepth 100000 in
set_option maxHeartbeats 800000 in
theorem base_any {p : Nat} {ok : Nat → Prop} {m : LM} {w : World} (hL : IsLog w p ok m) (hg : m.g.len ≤ 1000000000) :
    Calls Try.prog 24 #[.pointer (some ⟨p, 0, none⟩)] w fun e w' => ∃ ds, e = .returned (.agg ds.toArray) ∧ basK.M w' w.heap.size (fun _ => True) ⟨m.i, m.t, m.g⟩ ds ∧ In w w' := by
  have hlt := hL.lt
  obtain ⟨A0, c0, A1, c1, A2, c2, A3, c3, A, c, hb, hcg, hC⟩ := hL.base
  have hin0 := In.alloc (In.refl w) (.cells #[.int .i64 0, .int .i64 0, .slice none 0 0, .slice none 0 0, .slice none 0 0, .slice none 0 0] 27)
  have HZ := Lib.hid (blk_new w (.cells #[.int .i64 0, .int .i64 0, .slice none 0 0, .slice none 0 0, .slice none 0 0, .slice none 0 0] 27))
  have hbw := blk_below hb hin0.out
  have b6 := In.cell (blk_cell hb 6) hin0
  have HK : Hid (basK.K (w.alloc (.cells #[.int .i64 0, .int .i64 0, .slice none 0 0, .slice none 0 0, .slice none 0 0, .slice none 0 0] 27)) ⟨m.i, m.t, m.g⟩ [.int .i64 m.i, .int .i64 m.t, .slice A0 m.g.v.length c0, .slice A1 m.g.o.length c1, .slice A2 m.g.l.length c2, .slice A3 m.g.w.length c3]) := by
    obtain ⟨_, _, _, _, _, _, _, _, hh, l0, g0, l1, g1, l2, g2, l3, g3⟩ := cfgK_open (cfgK.K_below hin0.out hcg)
    injection hh with h1 hh
    injection hh with h2 hh
    injection hh with h3 hh
    injection hh with h4 hh
    injection h1 with e1 e2 e3
    injection h2 with e4 e5 e6
    injection h3 with e7 e8 e9
    injection h4 with e10 e11 e12
    subst e1 e3 e4 e6 e7 e9 e10 e12
    exact Lib.hid (basK_mk (x := ⟨m.i, m.t, m.g⟩) l0 g0 l1 g1 l2 g2 l3 g3)
  have HCA : Hid (CellsAt (w.alloc (.cells #[.int .i64 0, .int .i64 0, .slice none 0 0, .slice none 0 0, .slice none 0 0, .slice none 0 0] 27)) ⟨p, 0, none⟩ [.int .i64 m.i, .int .i64 m.t, .slice A0 m.g.v.length c0, .slice A1 m.g.o.length c1, .slice A2 m.g.l.length c2, .slice A3 m.g.w.length c3]) := Lib.hid (fun i v hv => by
    rw [add_plain, blk_cell hbw i]
    match i, hv with
    | 0, hv => exact hv
    | 1, hv => exact hv
    | 2, hv => exact hv
    | 3, hv => exact hv
    | 4, hv => exact hv
    | 5, hv => exact hv
    | i + 6, hv => simp at hv)
  have hg' := hg
  clear hL hb hcg hC hbw
  go_enter Try.func24, Try.ntmps24
  go_upto_region 1 with (fail)
  generalize w.alloc (.cells #[.int .i64 0, .int .i64 0, .slice none 0 0, .slice none 0 0, .slice none 0 0, .slice none 0 0] 27) = w1 at *
  go_wp2_with fail
  refine (there_yes b6).mono ?_
  rintro e w2 ⟨rfl, rfl⟩
  go_wp2_with (refine wpList_load_any rfl 27 (.tmp 10) rfl ⟨p, 0, none⟩ rfl _ _ HCA.out Try.underlying27 rfl size27 ?_)
  refine (ownBase_any HK.out hg').mono ?_
  rintro e w3 ⟨ds, rfl, hm3, hin3⟩
  have HM3 := Lib.hid hm3
  obtain ⟨v0, v1, v2, v3, rfl, m0, m1, m2, m3⟩ := basK_openM hm3
  obtain ⟨B0, b0, rfl⟩ := Kd.R_slice m0
  obtain ⟨B1, b1, rfl⟩ := Kd.R_slice m1
  obtain ⟨B2, b2, rfl⟩ := Kd.R_slice m2
  obtain ⟨B3, b3, rfl⟩ := Kd.R_slice m3
  have HZ3 := Lib.hid (blk_below HZ.out hin3.out)
  clear hm3 m0 m1 m2 m3
  go_wp2_with (refine wpList_store_row rfl 27 (.tmp 2) (.tmp 12) rfl w.heap.size #[.int .i64 m.i, .int .i64 m.t, .slice B0 m.g.v.length b0, .slice B1 m.g.o.length b1, .slice B2 m.g.l.length b2, .slice B3 m.g.w.length b3] rfl rfl 27 _ HZ3.out size27 rfl (by simp [Value.oneCell']) ?_)
  refine bodyPost_ret (results_cell_row rfl _ _ w.heap.size 27 #[.int .i64 m.i, .int .i64 m.t, .slice B0 m.g.v.length b0, .slice B1 m.g.o.length b1, .slice B2 m.g.l.length b2, .slice B3 m.g.w.length b3] (0, 0) _ rfl (setRow_heap _ _ _ _ _ _ HZ3.out) Try.underlying27 rfl size27) rfl ?_
  exact ⟨_, rfl, basK.M_lower hin0.size (M_row HM3.out HZ3.out (bas_E 27 (by decide)) _), In.setRow (hin0.trans hin3) (Nat.le_refl _) _⟩
set_option maxRecDepth 100000 in
set_option maxHeartbeats 800000 in
theorem config_any {p : Nat} {ok : Nat → Prop} {m : LM} {w : World} (hL : IsLog w p ok m) (hf : Fair m.i m.es.length) (hg : m.g.len ≤ 1000000000) (hs : entsSmall m.es) :
    Calls Try.prog 16 #[.pointer (some ⟨p, 0, none⟩)] w fun e w' => ∃ ds, e = .returned (.tuple #[.agg ds.toArray, .int .i64 (forceN m m.es.length).2]) ∧ cfgK.M w' w.heap.size (fun _ => True) (forceN m m.es.length).1 ds ∧ In w w' := by
  have hin0 := In.alloc (In.refl w) (.cells #[.slice none 0 0, .slice none 0 0, .slice none 0 0, .slice none 0 0] 25)
  have HZ := Lib.hid (blk_new w (.cells #[.slice none 0 0, .slice none 0 0, .slice none 0 0, .slice none 0 0] 25))
  have hL1 := hL.in_ hin0
  obtain ⟨A, c, hS, _⟩ := hL1.sees
  have HSE := Lib.hid hS
  have b6 := hS.c6
  have HF := Lib.hid hf
  have HL := Lib.hid hL1
  clear hL hL1 hS hf
  obtain ⟨cv, fi, hfn⟩ : ∃ cv fi, forceN m m.es.length = (cv, fi) := ⟨_, _, rfl⟩
  have HFN := Lib.hid hfn
  clear hfn
  go_enter Try.func16, Try.ntmps16
  go_upto_region 1 with (fail)
  generalize w.alloc (.cells #[.slice none 0 0, .slice none 0 0, .slice none 0 0, .slice none 0 0] 25) = w1 at *
  go_wp2_with fail
  refine (there_yes b6).mono ?_
  rintro e w2 ⟨rfl, rfl⟩
  go_wp2_with fail
  refine (last_yes HSE.out HF.out).mono ?_
  rintro e w2 ⟨rfl, ⟨n, rfl⟩⟩
  have hin2 := In.drewN (In.refl w1) n
  have HL2 := Lib.hid (HL.out.in_ hin2)
  have HZ2 := Lib.hid (blk_below HZ.out hin2.out)
  have hin02 := hin0.trans hin2
  generalize w1.drewN n = w2 at *
  have hfc := force_any m.es.length (Nat.le_refl _) HL2.out HF.out hg hs
  rw [HFN.out] at hfc
  have HFC := Lib.hid hfc
  clear hfc
  go_wp2_with fail
  refine HFC.out.mono ?_
  rintro e w3 ⟨ds, rfl, hm3, hin3⟩
  have HM3 := Lib.hid hm3
  obtain ⟨v0, v1, v2, v3, rfl, m0, m1, m2, m3⟩ := cfgK_openM hm3
  obtain ⟨B0, b0, rfl⟩ := Kd.R_slice m0
  obtain ⟨B1, b1, rfl⟩ := Kd.R_slice m1
  obtain ⟨B2, b2, rfl⟩ := Kd.R_slice m2
  obtain ⟨B3, b3, rfl⟩ := Kd.R_slice m3
  have HZ3 := Lib.hid (blk_below HZ2.out hin3.out)
  clear hm3 m0 m1 m2 m3
  go_wp2_with (refine wpList_store_row rfl 25 (.tmp 2) (.tmp 12) rfl w.heap.size #[.slice B0 cv.v.length b0, .slice B1 cv.o.length b1, .slice B2 cv.l.length b2, .slice B3 cv.w.length b3] rfl rfl 25 _ HZ3.out size25 rfl (by simp [Value.oneCell']) ?_)
  refine bodyPost_ret (results_ct rfl _ _ w.heap.size 25 #[.slice B0 cv.v.length b0, .slice B1 cv.o.length b1, .slice B2 cv.l.length b2, .slice B3 cv.w.length b3] (0, 0) _ rfl (setRow_heap _ _ _ _ _ _ HZ3.out) Try.underlying25 rfl size25) rfl ?_
  exact ⟨_, by rw [HFN.out]; rfl, by rw [HFN.out]; exact cfgK.M_lower hin02.size (M_row HM3.out HZ3.out (cfg_E 25 (by decide)) _), In.setRow (hin02.trans hin3) (Nat.le_refl _) _⟩
end Go.Proofs.Ytgpnfgjmdehfdaa
