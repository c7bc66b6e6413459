/- The configuration in force at an index of a log. -/
import Derived.Test.YtgpnfgjmdehfdaaAtB
import Derived.Deep.DeepCutAuto
import Derived.Deep.RegionLaw
namespace Go.Proofs.Ytgpnfgjmdehfdaa
set_option linter.unusedVariables false
set_option linter.unusedSimpArgs false
open Go.RowKit Go.Proofs.YtgpnfgjmdehfdaaW.PrintWords

/-- The configuration in force behind so many entries, and its index. -/
def forceN (m : LM) : Nat → Cfg × Int
  | 0 => (m.g, m.i)
  | j + 1 => if (m.es.getD j zEnt).k = 3 then ((m.es.getD j zEnt).g, m.i + (j + 1)) else forceN m j
theorem forceN_yes {m : LM} {j : Nat} {x : Ent} (hx : m.es[j]? = some x) (hk : x.k = 3) : forceN m (j + 1) = (x.g, m.i + (j + 1)) := by
  have : m.es.getD j zEnt = x := by rw [List.getD_eq_getElem?_getD, hx]; rfl
  rw [forceN, this, if_pos hk]
theorem forceN_no {m : LM} {j : Nat} {x : Ent} (hx : m.es[j]? = some x) (hk : x.k ≠ 3) : forceN m (j + 1) = forceN m j := by
  have : m.es.getD j zEnt = x := by rw [List.getD_eq_getElem?_getD, hx]; rfl
  rw [forceN, this, if_neg hk]
theorem IsLog.base {W : World} {p : Nat} {ok : Nat → Prop} {m : LM} (h : IsLog W p ok m) : ∃ A0 c0 A1 c1 A2 c2 A3 c3 A c, W.heap[p]? = some (.cells #[.int .i64 m.i, .int .i64 m.t, .slice A0 m.g.v.length c0, .slice A1 m.g.o.length c1, .slice A2 m.g.l.length c2, .slice A3 m.g.w.length c3, .bool true, .slice A m.es.length c] 37 (0, 0))
    ∧ cfgK.K W m.g [.slice A0 m.g.v.length c0, .slice A1 m.g.o.length c1, .slice A2 m.g.l.length c2, .slice A3 m.g.w.length c3] ∧ entK.C W A m.es.length m.es := by
  obtain ⟨A0, c0, A1, c1, A2, c2, A3, c3, A, c, hb, hg, he, hp⟩ := h
  exact ⟨A0, c0, A1, c1, A2, c2, A3, c3, A, c, hb, Kd.FK_now hg, (Kd.N_reads' he).2.2⟩
theorem M_row {α : Type} {d : Kd α} {w : World} {base g t : Nat} {x : α} {cs : List Value} {cells : Array Value} (h : d.M w base (fun _ => True) x cs) (hb : w.heap[g]? = some (.cells cells t (0, 0))) (ht : ∀ q, q ∈ d.E → q ≠ t) (c : Array Value) : d.M (w.setRow g c) base (fun _ => True) x cs :=
  d.M_mono (fun _ _ => trivial) (Kd.M_step (Kd.M_types h hb ht) (fun k hk _ => setRow_other _ _ _ _ hk.2))
theorem cfg_E (t : Nat) (ht : 3 ≠ t) : ∀ q, q ∈ cfgK.E → q ≠ t := fun q hq => by
  have : q = 3 := by simpa [cfgK, Kd.iso, Kd.pair, Kd.slice, Kd.int, Kd.scalar] using hq
  omega
set_option maxRecDepth 100000 in
set_option maxHeartbeats 1600000 in
theorem force_any {p : Nat} {ok : Nat → Prop} {m : LM} {w : World} (j0 : Nat) (hj0 : j0 ≤ m.es.length) (hL : IsLog w p ok m) (hf : Fair m.i m.es.length) (hg : m.g.len ≤ 1000000000) (hs : entsSmall m.es) :
    Calls Try.prog 56 #[.pointer (some ⟨p, 0, none⟩), .int .i64 (m.i + j0)] w fun e w' => ∃ ds, e = .returned (.tuple #[.agg ds.toArray, .int .i64 (forceN m j0).2]) ∧ cfgK.M w' w.heap.size (fun _ => True) (forceN m j0).1 ds ∧ In w w' := by
  have hlt := hL.lt
  obtain ⟨A0, c0, A1, c1, A2, c2, A3, c3, A, c, hb, hcg, hC⟩ := hL.base
  have hS : Sees w p m.i m.t A m.es.length c := ⟨blk_cell hb 0, blk_cell hb 1, blk_cell hb 6, blk_cell hb 7⟩
  have HSE := Lib.hid hS
  have HCG := Lib.hid hcg
  have HCC := Lib.hid hC
  have HBK := Lib.hid hb
  have HSM := Lib.hid hs.2
  have HF := Lib.hid hf
  obtain ⟨f0, f1, f2⟩ := hf
  have hin0 := In.alloc (In.refl w) (.cells #[.slice none 0 0, .slice none 0 0, .slice none 0 0, .slice none 0 0] 25)
  have HZ := Lib.hid (blk_new w (.cells #[.slice none 0 0, .slice none 0 0, .slice none 0 0, .slice none 0 0] 25))
  clear hL hb hcg hC hs hS
  go_enter Try.func56, Try.ntmps56
  go_upto_region 1 with (fail)
  generalize w.alloc (.cells #[.slice none 0 0, .slice none 0 0, .slice none 0 0, .slice none 0 0] 25) = w1 at *
  go_wp2_with fail
  go_loopw [6] (fun i wr => ∃ j : Nat, j ≤ m.es.length ∧ i = .int .i64 (m.i + j) ∧ Hid (forceN m j0 = forceN m j) ∧ In w1 wr) (fun i _ => (intOf i - m.i).toNat)
  case atStart => exact ⟨j0, hj0, rfl, Lib.hid rfl, In.refl _⟩
  case round =>
    obtain ⟨j, hj, rfl, hfo, hin⟩ := hrel
    have hinw := hin0.trans hin
    have c0' := In.cell HSE.out.c0 hinw
    have c7' := In.cell HSE.out.c7 hinw
    cases j with
    | zero =>
      have hd : decide (m.i < m.i + ((0 : Nat) : Int)) = false := decide_eq_false (by omega)
      obtain ⟨wo, rfl⟩ : ∃ wo : World, wo = wr := ⟨_, rfl⟩
      have HZR := Lib.hid (blk_below HZ.out hin.out)
      have hbw := blk_below HBK.out hinw.out
      have b0 := In.cells (show wo.cell? ⟨p, 0, none⟩ = some (.int .i64 m.i) from blk_cell hbw 0)
      have b2 := In.cells (show wo.cell? ⟨p, 2, none⟩ = some (.slice A0 m.g.v.length c0) from blk_cell hbw 2)
      have b3 := In.cells (show wo.cell? ⟨p, 3, none⟩ = some (.slice A1 m.g.o.length c1) from blk_cell hbw 3)
      have b4 := In.cells (show wo.cell? ⟨p, 4, none⟩ = some (.slice A2 m.g.l.length c2) from blk_cell hbw 4)
      have b5 := In.cells (show wo.cell? ⟨p, 5, none⟩ = some (.slice A3 m.g.w.length c3) from blk_cell hbw 5)
      have z0 := In.cells (show wo.cell? ⟨w.heap.size, 0, none⟩ = some (.slice none 0 0) from blk_cell HZR.out 0)
      have z1 := In.cells (show wo.cell? ⟨w.heap.size, 1, none⟩ = some (.slice none 0 0) from blk_cell HZR.out 1)
      have z2 := In.cells (show wo.cell? ⟨w.heap.size, 2, none⟩ = some (.slice none 0 0) from blk_cell HZR.out 2)
      have z3 := In.cells (show wo.cell? ⟨w.heap.size, 3, none⟩ = some (.slice none 0 0) from blk_cell HZR.out 3)
      have hfz : ∀ w', In wo w' → ∀ i, w'.frozen? ⟨w.heap.size, i, none⟩ = false := fun w' h i => blk_frozen (blk_below HZR.out h.out) i
      have y0 : ∀ w', In wo w' → w'.frozen? ⟨w.heap.size, 0, none⟩ = false := fun w' h => hfz w' h 0
      have y1 : ∀ w', In wo w' → w'.frozen? ⟨w.heap.size, 1, none⟩ = false := fun w' h => hfz w' h 1
      have y2 : ∀ w', In wo w' → w'.frozen? ⟨w.heap.size, 2, none⟩ = false := fun w' h => hfz w' h 2
      have y3 : ∀ w', In wo w' → w'.frozen? ⟨w.heap.size, 3, none⟩ = false := fun w' h => hfz w' h 3
      clear hfz hbw c0' c7'
      have h00 := In.refl wo
      have h01 := In.drew (In.refl wo)
      go_upto_region 7 with (fail)
      go_region_law ((first
        | (go_simp; go_at_call 83; refine Calls.mono (ownConfig_any (x := m.g) (cfgK.K_below (hinw.trans (by assumption)).out HCG.out) hg) ?_; rintro e wb ⟨ds, rfl, hm1, hb1⟩; have hi1 := In.trans (show In wo _ by assumption) hb1; obtain ⟨v1, v2, v3, v4, rfl, m1, m2, m3, m4⟩ := cfgK_openM hm1; obtain ⟨B1, d1, rfl⟩ := Kd.R_slice m1; obtain ⟨B2, d2, rfl⟩ := Kd.R_slice m2; obtain ⟨B3, d3, rfl⟩ := Kd.R_slice m3; obtain ⟨B4, d4, rfl⟩ := Kd.R_slice m4)))
      all_goals
        generalize hF : World.setCell _ _ _ = wf
        have hbb := blk_below HZR.out hi1.out
        have hb : wf.heap[w.heap.size]? = some (.cells #[.slice B1 m.g.v.length d1, .slice B2 m.g.o.length d2, .slice B3 m.g.l.length d3, .slice B4 m.g.w.length d4] 25 (0, 0)) := by
          rw [← hF]
          exact blk_put (blk_put (blk_put (blk_put hbb 0 _ rfl) 1 _ rfl) 2 _ rfl) 3 _ rfl
        have hmv : ∀ i, i ≠ w.heap.size → wf.heap[i]? = wb.heap[i]? := fun i hi => by
          rw [← hF, Below.heap_setCell _ _ _ i hi, Below.heap_setCell _ _ _ i hi, Below.heap_setCell _ _ _ i hi, Below.heap_setCell _ _ _ i hi]
        have hle := Nat.le_refl w.heap.size
        have hinF : In w wf := by
          rw [← hF]
          exact In.set (In.set (In.set (In.set (hinw.trans hi1) hle _ _) hle _ _) hle _ _) hle _ _
        clear hF
        have hM := cfgK.M_lower (base' := w.heap.size) hinw.size (cfgK.M_mono (ok' := fun _ => True) (fun _ _ => trivial) (Kd.M_step (Kd.M_types (cfgK_mkM (x := m.g) m1 m2 m3 m4) hbb (cfg_E 25 (by decide))) (fun k hk _ => hmv k hk.2)))
        go_wp2_with fail
        refine bodyPost_ret (results_ct rfl _ _ w.heap.size 25 #[.slice B1 m.g.v.length d1, .slice B2 m.g.o.length d2, .slice B3 m.g.l.length d3, .slice B4 m.g.w.length d4] (0, 0) _ rfl hb Try.underlying25 rfl size25) rfl ?_
        exact ⟨_, by rw [hfo.out]; rfl, by rw [hfo.out]; exact hM, hinF⟩
    | succ j =>
      have hd : decide (m.i < m.i + ((j + 1 : Nat) : Int)) = true := decide_eq_true (by omega)
      obtain ⟨ad, x, A2, d2, A3, d3, A4, d4, A5, d5, A6, d6, rfl, hx, k0, k1, k2, k3, k4, k5, k6, l2, g2, l3, g3, l4, g4, l5, g5, l6, g6⟩ := entK_at (Kd.C_below HCC.out hinw.out) (j := j) (by omega)
      have hq : placeOf m.i m.es.length (m.i + ((j + 1 : Nat) : Int)) = ((j : Int), true) := by unfold placeOf; rw [if_neg (by omega)]; congr 1; omega
      have hpl := place_yes (m.i + ((j + 1 : Nat) : Int)) (HSE.out.in_ hinw) HF.out
      rw [hq] at hpl
      have HPL := Lib.hid hpl
      have HX := Lib.hid (cfgK_mk (x := x.g) l3 g3 l4 g4 l5 g5 l6 g6)
      have HXX := Lib.hid hx
      clear hpl hq hx g2 g3 g4 g5 g6 k0 k2
      go_wp2_with fail
      refine HPL.out.mono ?_
      rintro e w2 ⟨rfl, ⟨n, rfl⟩⟩
      by_cases hk : x.k = 3
      · have hd2 : (x.k == 3) = true := by rw [beq_iff_eq]; exact hk
        have hfy := Lib.hid (forceN_yes HXX.out hk)
        clear hk
        have hinn := In.drewN (In.refl wr) n
        have HZR := Lib.hid (blk_below HZ.out (hin.trans hinn).out)
        have hinw2 := hinw.trans hinn
        have HX2 := Lib.hid (cfgK.K_below hinn.out HX.out)
        have hsm := (HSM.out j x HXX.out).2
        go_wp2_with fail
        refine (ownConfig_any (x := x.g) HX2.out hsm).mono ?_
        rintro e w3 ⟨ds, rfl, hm3, hin3⟩
        have HM3 := Lib.hid hm3
        obtain ⟨v0, v1, v2, v3, rfl, m0, m1, m2, m3⟩ := cfgK_openM hm3
        obtain ⟨B0, b0, rfl⟩ := Kd.R_slice m0
        obtain ⟨B1, b1, rfl⟩ := Kd.R_slice m1
        obtain ⟨B2, b2, rfl⟩ := Kd.R_slice m2
        obtain ⟨B3, b3, rfl⟩ := Kd.R_slice m3
        have HZ3 := Lib.hid (blk_below HZR.out hin3.out)
        clear hm3 m0 m1 m2 m3
        have hsz : w.heap.size < wr.heap.size := Nat.lt_of_lt_of_le (blk_lt HZ.out) hin.size
        go_wp2_with (refine wpList_store_row rfl 25 (.tmp 4) (.tmp 46) rfl w.heap.size #[.slice B0 x.g.v.length b0, .slice B1 x.g.o.length b1, .slice B2 x.g.l.length b2, .slice B3 x.g.w.length b3] rfl rfl 25 _ HZ3.out size25 rfl (by simp [Value.oneCell']) ?_)
        refine bodyPost_ret (results_ct rfl _ _ w.heap.size 25 #[.slice B0 x.g.v.length b0, .slice B1 x.g.o.length b1, .slice B2 x.g.l.length b2, .slice B3 x.g.w.length b3] (0, 0) _ rfl (setRow_heap _ _ _ _ _ _ HZ3.out) Try.underlying25 rfl size25) rfl ?_
        exact ⟨_, by rw [hfo.out, hfy.out]; rfl, by rw [hfo.out, hfy.out]; exact cfgK.M_lower hinw2.size (M_row HM3.out HZ3.out (cfg_E 25 (by decide)) _), In.setRow (hinw2.trans hin3) (Nat.le_refl _) _⟩
      · have hd2 : (x.k == 3) = false := by rw [beq_eq_false_iff_ne]; exact hk
        have hfy := Lib.hid (forceN_no HXX.out hk)
        clear hk
        go_wp2_with fail
        go_roundw
        case rel => exact ⟨j, by omega, by go_num, Lib.hid (by rw [hfo.out, hfy.out]), In.drewN hin _⟩
        case measure => simp [intOf]; omega
end Go.Proofs.Ytgpnfgjmdehfdaa
