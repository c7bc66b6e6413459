/- LogCompact, walked. -/
import Derived.Test.YtgpnfgjmdehfdaaTwoB
import Derived.Test.YtgpnfgjmdehfdaaLawTake
namespace Go.Proofs.Ytgpnfgjmdehfdaa
set_option linter.unusedVariables false
set_option linter.unusedSimpArgs false
open Go.RowKit Go.Proofs.YtgpnfgjmdehfdaaW.PrintWords

theorem quiet_drawn {P : Program} {f : FuncId} {args : Array Value} {w : World} {m n : Nat} {v : Value}
    (h : Calls P f args (w.drewN (m + n)) fun e w' => e = .returned v ∧ Drawn0 (w.drewN (m + n)) w') : Calls P f args (w.drewN (m + n)) fun e w'' => e = .returned v ∧ ∃ q, w'' = w.drewN (m + q) :=
  h.mono fun _ _ ⟨he, ⟨k, hk⟩⟩ => ⟨he, n + k, by rw [hk, World.drewN_drewN, Nat.add_assoc]⟩
theorem term_range {m : LM} {k t : Int} {b : Bool} (hk : m.i < k) (h : ∀ (j : Nat) (e : Ent), m.es[j]? = some e → -9223372036854775808 ≤ e.t ∧ e.t ≤ 9223372036854775807) (ht : termOf m.i m.t m.es k = (t, b)) : -9223372036854775808 ≤ t ∧ t ≤ 9223372036854775807 := by
  unfold termOf at ht
  split at ht
  · rename_i hh
    injection ht with h1 _
    rw [← h1, List.getD_eq_getElem?_getD]
    cases hx : m.es[(k - m.i - 1).toNat]? with
    | none => simp [zEnt]
    | some x => exact h _ x hx
  · rw [if_neg (by omega)] at ht
    injection ht with h1 _
    omega
theorem field27 (x t : Int) (v0 v1 v2 v3 : Value) : ∀ w : World, (Instr.field 27 (.agg #[.int .i64 x, .int .i64 t, v0, v1, v2, v3]) 0).run Try.prog w = .ok (.int .i64 x) w := fun _ => by kernel_rfl
set_option maxRecDepth 100000 in
set_option maxHeartbeats 6400000 in
theorem logCompact_any {b : Bas} {hv : List Ent} (index far : Int) {cs : List Value} {A : Option Addr} {cA : Nat} {W : World} (hB : basK.K W b cs) (hH : entK.C W A hv.length hv) (hcA : hv.length ≤ cA) (fb : b.g.fits) (fh : entsFit hv) (hwt : ∀ (j : Nat) (e : Ent), hv[j]? = some e → -9223372036854775808 ≤ e.t ∧ e.t ≤ 9223372036854775807) :
    Calls Try.prog 10 #[.agg cs.toArray, .slice A hv.length cA, .int .i64 index, .int .i64 far] W fun e w' => e = .returned (.bool true) ∧ In W w' := by
  have HK := Lib.hid hB
  have HWT := Lib.hid hwt
  obtain ⟨A2, c2, A3, c3, A4, c4, A5, c5, rfl, l2, g2', l3, g3', l4, g4', l5, g5'⟩ := basK_open hB
  have G := Lib.hid (And.intro g2' (And.intro g3' (And.intro g4' g5')))
  clear g2' g3' g4' g5'
  have HH := Lib.hid hH
  have F1 := Lib.hid (And.intro fb fh)
  clear hB hH fb fh hwt
  have hwo := In.alloc (In.refl W) (.cells #[.int .i64 b.i, .int .i64 b.t, .slice A2 b.g.v.length c2, .slice A3 b.g.o.length c3, .slice A4 b.g.l.length c4, .slice A5 b.g.w.length c5] 27)
  have kb := Lib.hid (box_cells W [.int .i64 b.i, .int .i64 b.t, .slice A2 b.g.v.length c2, .slice A3 b.g.o.length c3, .slice A4 b.g.l.length c4, .slice A5 b.g.w.length c5] 27)
  go_enter Try.func10, Try.ntmps10
  go_upto_region 1 with (fail)
  generalize W.alloc (.cells #[.int .i64 b.i, .int .i64 b.t, .slice A2 b.g.v.length c2, .slice A3 b.g.o.length c3, .slice A4 b.g.l.length c4, .slice A5 b.g.w.length c5] 27) = wo at *
  go_wp2_with fail
  refine (awake10_any wo).mono ?_
  rintro e w1 ⟨rfl, hb1⟩
  have hin1 : In wo w1 := hb1
  clear hb1
  have q0 : ∀ w', In wo w' → w'.cell? ⟨W.heap.size, 0, none⟩ = some (.int .i64 b.i) := fun w' h => kb.out w' h 0
  have q1 : ∀ w', In wo w' → w'.cell? ⟨W.heap.size, 1, none⟩ = some (.int .i64 b.t) := fun w' h => kb.out w' h 1
  have HC : ∀ w', In wo w' → CellsAt w' ⟨W.heap.size, 0, none⟩ [.int .i64 b.i, .int .i64 b.t, .slice A2 b.g.v.length c2, .slice A3 b.g.o.length c3, .slice A4 b.g.l.length c4, .slice A5 b.g.w.length c5] := fun w' h i v hv => by rw [add_plain, kb.out w' h i]; exact hv
  replace HC := Lib.hid HC
  have Q0 := Lib.hid q0
  have Q1 := Lib.hid q1
  clear q0 q1
  have HC1 := Lib.hid (HC.out w1 hin1)
  go_wp2_with (refine wpList_load_any rfl 27 (.tmp 4) rfl ⟨W.heap.size, 0, none⟩ rfl _ _ HC1.out Try.underlying27 rfl size27 ?_)
  obtain ⟨g2, g3, g4, g5⟩ := G.out
  have ha1 := actK_mk (w := w1) (x := ⟨0, index, hv, b⟩) (A2 := A) (c2 := cA) hcA (Kd.C_below HH.out (hwo.trans hin1).out) l2 (Kd.C_below g2 (hwo.trans hin1).out) l3 (Kd.C_below g3 (hwo.trans hin1).out) l4 (Kd.C_below g4 (hwo.trans hin1).out) l5 (Kd.C_below g5 (hwo.trans hin1).out)
  have hrow := one_row (e := 29) ha1
  refine (great10_any hrow (fun j y hy => by
    match j, hy with
    | 0, hy => cases hy; exact ⟨F1.out.2, F1.out.1⟩)).mono ?_
  clear ha1 hrow g2 g3 g4 g5 G
  rintro e w2 ⟨bb, rfl, hb2, hsm⟩
  have hin2 : In wo w2 := (In.alloc hin1 _).trans hb2
  have HS := Lib.hid hsm
  clear hsm hb2
  have q0 := Q0.out w2 hin2
  have q1 := Q1.out w2 hin2
  cases bb with
  | true =>
    go_wp2_with fail
    go_ret
    exact ⟨rfl, hwo.trans hin2⟩
  | false =>
  obtain ⟨s1, s2⟩ := HS.out rfl
  obtain ⟨e1, e2, e3, e4⟩ := s2 0 _ rfl
  dsimp only at e1 e2 e3 e4
  clear s1 s2 HS
  by_cases h0 : b.i < 0
  · have hd : decide (b.i < 0) = true := decide_eq_true h0
    go_wp2_with fail
    go_ret
    exact ⟨rfl, hwo.trans hin2⟩
  have hd0 : decide (b.i < 0) = false := decide_eq_false h0
  by_cases h1 : b.t < 0
  · have hd : decide (b.t < 0) = true := decide_eq_true h1
    go_wp2_with fail
    go_ret
    exact ⟨rfl, hwo.trans hin2⟩
  have hd1 : decide (b.t < 0) = false := decide_eq_false h1
  by_cases h2 : 200 < far
  · have hd : decide (200 < far) = true := decide_eq_true h2
    go_wp2_with fail
    go_ret
    exact ⟨rfl, hwo.trans hin2⟩
  have hd2 : decide (200 < far) = false := decide_eq_false h2
  go_upto_region 5 with (fail)
  have HB2 := Lib.hid (fun w' (h : In w2 w') => basK.K_below (hwo.trans (hin2.trans h)).out HK.out)
  have hlen : b.g.len ≤ 1000000000 := by omega
  clear q0 q1 HC1 hd0 hd1 hd2
  have q0 : ∀ w', In w2 w' → w'.cell? ⟨W.heap.size, 0, none⟩ = some (.int .i64 b.i) := fun w' h => kb.out w' (hin2.trans h) 0
  have q1 : ∀ w', In w2 w' → w'.cell? ⟨W.heap.size, 1, none⟩ = some (.int .i64 b.t) := fun w' h => kb.out w' (hin2.trans h) 1
  have q2 : ∀ w', In w2 w' → w'.cell? ⟨W.heap.size, 2, none⟩ = some (.slice A2 b.g.v.length c2) := fun w' h => kb.out w' (hin2.trans h) 2
  have q3 : ∀ w', In w2 w' → w'.cell? ⟨W.heap.size, 3, none⟩ = some (.slice A3 b.g.o.length c3) := fun w' h => kb.out w' (hin2.trans h) 3
  have q4 : ∀ w', In w2 w' → w'.cell? ⟨W.heap.size, 4, none⟩ = some (.slice A4 b.g.l.length c4) := fun w' h => kb.out w' (hin2.trans h) 4
  have q5 : ∀ w', In w2 w' → w'.cell? ⟨W.heap.size, 5, none⟩ = some (.slice A5 b.g.w.length c5) := fun w' h => kb.out w' (hin2.trans h) 5
  go_region_held3 (fun w' => In w2 w') (first | exact In.drew (In.refl _) | exact In.next (by assumption) (by assumption) | assumption)
    (first
      | (go_at_call 49; have tok := hLp; clear tok; (with_reducible refine Calls.mono (new_any (HB2.out _ (by assumption)) hlen) ?_); rintro e wq ⟨q, rfl, hLq, hqq, hiq⟩)
      | (go_at_call 49; (with_reducible refine Calls.mono (new_any (HB2.out _ (by assumption)) hlen) ?_); rintro e wp ⟨p, rfl, hLp, hpp, hip⟩; have hplt := hLp.lt))
  have hs2 := hin2.size
  have hwp : In w2 wp := (In.drew (In.refl w2)).trans hip
  have hwq : In w2 wq := hwp.trans hiq
  have hnew : Two w2 wq p ⟨b.i, b.t, b.g, []⟩ q ⟨b.i, b.t, b.g, []⟩ := by
    rw [nn_pos h0, nn_pos h1] at hLp hLq
    exact two_new hwp ((hLp.bound.in_ hiq).mono (fun k hk => ⟨hk.1.1, hk.2, hk.1.2⟩) (fun h => h.2.2 rfl)) hpp hplt hLq hqq
  obtain ⟨sh, lh⟩ := small_ents e1
  have SH := Lib.hid sh
  have HN := Lib.hid hnew
  have Q := Lib.hid q0
  clear hnew hLp hLq sh q0 q1 q2 q3 q4 q5 hip hpp hiq hqq HB2
  go_wp2_with fail
  refine (put_two (xs := hv) HN.out hwq (Kd.C_below HH.out (hwo.trans (hin2.trans hwq)).out) SH.out ⟨h0, (show b.i ≤ 1000000000000 by omega), (by simp; omega)⟩).mono ?_
  rintro e w3 ⟨rfl, hT3, hw3⟩
  have HT3 := Lib.hid hT3.swap
  clear hT3 HN
  go_wp2_with fail
  refine (put_two (xs := hv) HT3.out hw3 (Kd.C_below HH.out (hwo.trans (hin2.trans hw3)).out) SH.out ⟨h0, (show b.i ≤ 1000000000000 by omega), (by simp; omega)⟩).mono ?_
  rintro e w4 ⟨rfl, hT4, hw4⟩
  have HT4 := Lib.hid (show Two w2 w4 p ⟨b.i, b.t, b.g, hv⟩ q ⟨b.i, b.t, b.g, hv⟩ from hT4.swap)
  clear hT4 HT3
  obtain ⟨m, hm⟩ : ∃ m : LM, m = ⟨b.i, b.t, b.g, hv⟩ := ⟨_, rfl⟩
  have hmi : m.i = b.i := by rw [hm]
  have hml : m.es.length = hv.length := by rw [hm]
  have hmt : m.es = hv := by rw [hm]
  have hmg : m.g.len ≤ 1000000000 := by rw [hm]; exact hlen
  have hme : entsSmall m.es := by rw [hm]; exact SH.out
  rw [← hm] at HT4
  have HME := Lib.hid hme
  have hf3 : Fair m.i m.es.length := ⟨by omega, by omega, by omega⟩
  have HF3 := Lib.hid hf3
  have hlast : m.last = b.i + hv.length := by unfold LM.last; rw [hmi, hml]
  have hgone := compact_gone m index
  obtain ⟨i0, i1, i2, i3, i4⟩ := compact_near (m := m) index (by omega) (by omega) (by omega) hmg hme
  have hcall := compact_two index HT4.out hw4 hf3 hmg hme
  generalize (compactOf m index).1 = m1 at *
  generalize (compactOf m index).2 = ok at *
  have hf1 : Fair m1.i m1.es.length := ⟨by omega, by omega, by omega⟩
  have HF1 := Lib.hid hf1
  have HM1 := Lib.hid i4
  have HG := Lib.hid hgone
  have HCALL := Lib.hid hcall
  have HMI := Lib.hid (And.intro hmi (And.intro hml (And.intro hlast hmt)))
  clear hmi hml hmt hme hf3 hf1 hlast hgone hcall hm i2 i4
  go_wp2_with fail
  refine HCALL.out.mono ?_
  rintro e w5 ⟨rfl, hT5, hw5⟩
  have HT5 := Lib.hid hT5
  have c0 := Q.out w5 hw5
  clear hT5 HCALL HT4
  go_upto_region 9 with (fail)
  go_cut [74] (fun s wx => s = .bool false ∧ Hid (Two w2 wx p m1 q m) ∧ In w2 wx)
  case first =>
    have hok := HG.out.ok_
    rw [HMI.out.1] at hok
    by_cases hb1 : b.i ≤ index
    · have hd1 : decide (b.i ≤ index) = true := decide_eq_true hb1
      rw [hd1] at hok
      have HOK := Lib.hid hok
      clear hok
      go_wp2_with fail
      refine (last_two HT5.out.swap HF3.out).mono ?_
      rintro e w6 ⟨rfl, ⟨n6, rfl⟩⟩
      by_cases hb2 : index ≤ m.last
      · have hd2 : decide (index ≤ m.last) = true := decide_eq_true hb2
        rw [hd2] at HOK
        obtain rfl := HOK.out
        go_wp2_with fail
        go_meet
        exact ⟨rfl, Lib.hid (HT5.out.in_ (In.drewN (In.refl _) _)), In.drewN hw5 _⟩
      · have hd2 : decide (index ≤ m.last) = false := decide_eq_false hb2
        rw [hd2] at HOK
        obtain rfl := HOK.out
        go_wp2_with fail
        go_meet
        exact ⟨rfl, Lib.hid (HT5.out.in_ (In.drewN (In.refl _) _)), In.drewN hw5 _⟩
    · have hd1 : decide (b.i ≤ index) = false := decide_eq_false hb1
      rw [hd1, Bool.false_and] at hok
      subst hok
      go_wp2_with fail
      go_meet
      exact ⟨rfl, HT5, hw5⟩
  case rest =>
  clear hw5 HT5 c0
  obtain ⟨rfl, HT5, hw5⟩ := hcut
  obtain ⟨cv, hcv⟩ : ∃ cv, cv = (forceN m m.es.length).1 := ⟨_, rfl⟩
  obtain ⟨f1i, hf1i⟩ : ∃ x, x = (forceN m1 m1.es.length).2 := ⟨_, rfl⟩
  obtain ⟨f2i, hf2i⟩ : ∃ x, x = (forceN m m.es.length).2 := ⟨_, rfl⟩
  have HLB := Lib.hid HG.out.last_
  have hco1 := fun (w' : World) (h : Two w2 w' p m1 q m) => config_two h HF1.out i3 HM1.out
  have hco2 := fun (w' : World) (h : Two w2 w' p m1 q m) => config_two h.swap HF3.out hmg HME.out
  rw [HG.out.force_] at hco1
  rw [← hcv, ← hf1i] at hco1
  rw [← hcv, ← hf2i] at hco2
  have HCO1 := Lib.hid hco1
  have HCO2 := Lib.hid hco2
  clear hco1 hco2 hcv hf1i hf2i
  go_wp2_with fail
  refine (HCO1.out _ HT5.out).mono ?_
  rintro e w6 ⟨ds, rfl, hm6, hin6⟩
  have hK6 := cfgK.K_of_M hm6
  obtain ⟨C0, k0, C1, k1, C2, k2, C3, k3, rfl, _⟩ := cfgK_open hK6
  have HK6 := Lib.hid hK6
  have HZ := Lib.hid (blk_new w6 (.cells #[.slice none 0 0, .slice none 0 0, .slice none 0 0, .slice none 0 0] 25))
  clear hK6 hm6
  go_upto_region 12 with (refine wpList_store_row rfl 25 (.tmp 12) (.tmp 78) rfl w6.heap.size #[.slice C0 cv.v.length k0, .slice C1 cv.o.length k1, .slice C2 cv.l.length k2, .slice C3 cv.w.length k3] rfl rfl 25 _ HZ.out size25 rfl (by simp [Value.oneCell']) ?_)
  have hin7 := In.setRow (In.alloc (In.refl w6) (.cells #[.slice none 0 0, .slice none 0 0, .slice none 0 0, .slice none 0 0] 25)) (g := w6.heap.size) (Nat.le_refl _) #[.slice C0 cv.v.length k0, .slice C1 cv.o.length k1, .slice C2 cv.l.length k2, .slice C3 cv.w.length k3]
  have HB7 := Lib.hid (setRow_heap _ _ _ #[.slice C0 cv.v.length k0, .slice C1 cv.o.length k1, .slice C2 cv.l.length k2, .slice C3 cv.w.length k3] _ _ HZ.out)
  clear HZ
  generalize (w6.alloc (.cells #[.slice none 0 0, .slice none 0 0, .slice none 0 0, .slice none 0 0] 25)).setRow w6.heap.size #[.slice C0 cv.v.length k0, .slice C1 cv.o.length k1, .slice C2 cv.l.length k2, .slice C3 cv.w.length k3] = w7 at *
  have hin67 := hin6.trans hin7
  have HT7 := Lib.hid (HT5.out.in_ hin67)
  have HK7 := Lib.hid (cfgK.K_below hin7.out HK6.out)
  go_wp2_with fail
  refine (HCO2.out _ HT7.out).mono ?_
  rintro e w8 ⟨ds, rfl, hm8, hin8⟩
  have hK8 := cfgK.K_of_M hm8
  obtain ⟨D0, l0, D1, l1, D2, l2', D3, l3', rfl, _⟩ := cfgK_open hK8
  have HK8 := Lib.hid hK8
  have HZ := Lib.hid (blk_new w8 (.cells #[.slice none 0 0, .slice none 0 0, .slice none 0 0, .slice none 0 0] 25))
  have HB8 := Lib.hid (blk_below HB7.out hin8.out)
  clear hK8 hm8 HB7
  go_upto_region 13 with (refine wpList_store_row rfl 25 (.tmp 14) (.tmp 83) rfl w8.heap.size #[.slice D0 cv.v.length l0, .slice D1 cv.o.length l1, .slice D2 cv.l.length l2', .slice D3 cv.w.length l3'] rfl rfl 25 _ HZ.out size25 rfl (by simp [Value.oneCell']) ?_)
  have hin9 := In.setRow (In.alloc (In.refl w8) (.cells #[.slice none 0 0, .slice none 0 0, .slice none 0 0, .slice none 0 0] 25)) (g := w8.heap.size) (Nat.le_refl _) #[.slice D0 cv.v.length l0, .slice D1 cv.o.length l1, .slice D2 cv.l.length l2', .slice D3 cv.w.length l3']
  have HB9 := Lib.hid (setRow_heap _ _ _ #[.slice D0 cv.v.length l0, .slice D1 cv.o.length l1, .slice D2 cv.l.length l2', .slice D3 cv.w.length l3'] _ _ HZ.out)
  have HB10 := Lib.hid (blk_below HB8.out hin9.out)
  clear HZ HB8
  generalize (w8.alloc (.cells #[.slice none 0 0, .slice none 0 0, .slice none 0 0, .slice none 0 0] 25)).setRow w8.heap.size #[.slice D0 cv.v.length l0, .slice D1 cv.o.length l1, .slice D2 cv.l.length l2', .slice D3 cv.w.length l3'] = w9 at *
  have hin89 := hin8.trans hin9
  have HT9 := Lib.hid (HT7.out.in_ hin89)
  have HKA := Lib.hid (cfgK.K_below hin89.out HK7.out)
  have HKB := Lib.hid (cfgK.K_below hin9.out HK8.out)
  have hw9 : In w2 w9 := (hw5.trans hin67).trans hin89
  clear HK6 HK7 HK8
  have hla1 := fun (w' : World) (h : Two w2 w' p m1 q m) => last_two h HF1.out
  rw [HLB.out] at hla1
  have HLA1 := Lib.hid hla1
  clear hla1
  go_cut [105] (fun s wx => s = .bool false ∧ Hid (Two w2 wx p m1 q m) ∧ In w2 wx)
  case first =>
    go_wp2_with fail
    refine (HLA1.out _ HT9.out).mono ?_
    rintro e w10 ⟨rfl, ⟨n10, rfl⟩⟩
    go_wp2_with fail
    refine (last_two (HT9.out.in_ (In.drewN (In.refl _) _)).swap HF3.out).mono ?_
    rintro e w11 ⟨rfl, ⟨n11, rfl⟩⟩
    have hinn := In.drewN (In.refl w9) (n10 + n11)
    have HT11 := Lib.hid (HT9.out.in_ hinn)
    have a0 : w9.cell? ⟨w6.heap.size, 0, none⟩ = some (.slice C0 cv.v.length k0) := blk_cell HB10.out 0
    have a1 : w9.cell? ⟨w6.heap.size, 1, none⟩ = some (.slice C1 cv.o.length k1) := blk_cell HB10.out 1
    have a2 : w9.cell? ⟨w6.heap.size, 2, none⟩ = some (.slice C2 cv.l.length k2) := blk_cell HB10.out 2
    have a3 : w9.cell? ⟨w6.heap.size, 3, none⟩ = some (.slice C3 cv.w.length k3) := blk_cell HB10.out 3
    have d0 : w9.cell? ⟨w8.heap.size, 0, none⟩ = some (.slice D0 cv.v.length l0) := blk_cell HB9.out 0
    have d1 : w9.cell? ⟨w8.heap.size, 1, none⟩ = some (.slice D1 cv.o.length l1) := blk_cell HB9.out 1
    have d2 : w9.cell? ⟨w8.heap.size, 2, none⟩ = some (.slice D2 cv.l.length l2') := blk_cell HB9.out 2
    have d3 : w9.cell? ⟨w8.heap.size, 3, none⟩ = some (.slice D3 cv.w.length l3') := blk_cell HB9.out 3
    have hw11 := hw9.trans hinn
    have HKC := Lib.hid (cfgK.K_below hinn.out HKA.out)
    have HKD := Lib.hid (cfgK.K_below hinn.out HKB.out)
    go_wp2_with fail
    refine (sameConfig_any HKC.out HKD.out).mono ?_
    rintro e w12 ⟨rfl, hin12⟩
    have HT12 := Lib.hid (HT11.out.in_ hin12)
    have hw12 := hw11.trans hin12
    clear a0 a1 a2 a3 d0 d1 d2 d3
    cases ok with
    | false =>
      go_wp2_with fail
      go_meet
      exact ⟨rfl, HT12, hw12⟩
    | true =>
      have hbi := HG.out.base_ rfl
      have hba := base_two HT12.out i3
      rw [hbi] at hba
      have HBA := Lib.hid hba
      clear hba hbi
      go_wp2_with fail
      refine HBA.out.mono ?_
      rintro e w13 ⟨v0, v1, v2, v3, rfl, hin13⟩
      have hfd := field27 index m1.t v0 v1 v2 v3
      go_wp2_with fail
      go_meet
      exact ⟨rfl, Lib.hid (HT12.out.in_ hin13), hw12.trans hin13⟩
  case rest =>
  clear hw9 HT9 HKA HKB HB9 HB10 HCO1 HCO2 hin89 hin9 hin8 hin67 hin7 hin6
  obtain ⟨rfl, HT9, hw9⟩ := hcut
  go_wp2_with fail
  refine (base_two HT9.out i3).mono ?_
  rintro e w14 ⟨v0, v1, v2, v3, rfl, hin14⟩
  have hfd := field27 m1.i m1.t v0 v1 v2 v3
  have HT14 := Lib.hid (HT9.out.in_ hin14)
  have hw14 := hw9.trans hin14
  clear hw9 HT9
  go_wp2_with fail
  clear hfd
  go_loopw [16] (fun i wr => ∃ z : Int, m1.i ≤ z ∧ z ≤ m.last + 1 ∧ i = .int .i64 z ∧ In w14 wr) (fun i _ => (m.last + 1 - intOf i).toNat)
  case atStart => exact ⟨m1.i, by omega, by have := HG.out.hi; omega, rfl, In.refl _⟩
  case round =>
    obtain ⟨z, hz0, hz1, rfl, hin⟩ := hrel
    go_wp2_with fail
    refine (HLA1.out _ (HT14.out.in_ hin)).mono ?_
    rintro e w15 ⟨rfl, ⟨n15, rfl⟩⟩
    have hin15 := In.drewN hin n15
    generalize wr.drewN n15 = w16 at *
    have HTZ := Lib.hid (HT14.out.in_ hin15)
    by_cases hz : z ≤ m.last
    · have hd : decide (z ≤ m.last) = true := decide_eq_true hz
      have hzb : z ≤ 3000000000 := by have := HMI.out.2.2.1; omega
      obtain ⟨tv, htv⟩ := term_base (m := m) (k := z) (by have := HG.out.lo; omega) hz
      have hc1 := term_two z HTZ.out HF1.out
      rw [HG.out.term_ z hz0 (by rw [HLB.out]; exact hz), htv] at hc1
      have hc2 := fun (w' : World) (h : Two w2 w' p m1 q m) => term_two z h.swap HF3.out
      rw [htv] at hc2
      have HC1 := Lib.hid hc1
      have HC2 := Lib.hid hc2
      clear hc1 hc2 htv
      go_wp2_with fail
      (with_reducible refine HC1.out.mono ?_)
      rintro e wa ⟨rfl, ⟨na, rfl⟩⟩
      have hina := In.drewN (In.refl w16) na
      have HTA := Lib.hid (HTZ.out.in_ hina)
      have hin14a := hin15.trans hina
      generalize w16.drewN na = wa at *
      go_wp2_with fail
      (with_reducible refine (HC2.out _ HTA.out).mono ?_)
      rintro e wb ⟨rfl, ⟨nb, rfl⟩⟩
      have hinb := In.drewN (In.refl wa) nb
      have HTB := Lib.hid (HTA.out.in_ hinb)
      have hin14b := hin14a.trans hinb
      generalize wa.drewN nb = wb at *
      clear HC1 HC2 HTA HTZ
      have hxx := Lib.hid (fun h : m1.i < z => congrArg Prod.fst (HG.out.at_ z h))
      go_wp2_with fail
      refine (at_two z HTB.out HF1.out HM1.out).mono ?_
      rintro e w17 ⟨ds, rfl, hK7, hin7⟩
      generalize (atOf m1 z).1 = x at *
      have hK7' := hK7
      obtain ⟨A2, c2, A3, c3, A4, c4, A5, c5, A6, c6, rfl, _⟩ := entK_open hK7'
      have HK7 := Lib.hid hK7
      have HZ := Lib.hid (blk_new w17 (.cells #[.int .i64 0, .int .u8 0, .slice none 0 0, .slice none 0 0, .slice none 0 0, .slice none 0 0, .slice none 0 0] 45))
      clear hK7 hK7'
      go_upto_region 21 with (refine wpList_store_row rfl 45 (.tmp 21) (.tmp 131) rfl w17.heap.size #[.int .i64 x.t, .int .u8 x.k, .slice A2 x.c.length c2, .slice A3 x.g.v.length c3, .slice A4 x.g.o.length c4, .slice A5 x.g.l.length c5, .slice A6 x.g.w.length c6] rfl rfl 45 _ HZ.out size45 rfl (by simp [Value.oneCell']) ?_)
      have hin8 := In.setRow (In.alloc (In.refl w17) (.cells #[.int .i64 0, .int .u8 0, .slice none 0 0, .slice none 0 0, .slice none 0 0, .slice none 0 0, .slice none 0 0] 45)) (g := w17.heap.size) (Nat.le_refl _) #[.int .i64 x.t, .int .u8 x.k, .slice A2 x.c.length c2, .slice A3 x.g.v.length c3, .slice A4 x.g.o.length c4, .slice A5 x.g.l.length c5, .slice A6 x.g.w.length c6]
      have HB8 := Lib.hid (setRow_heap _ _ _ #[.int .i64 x.t, .int .u8 x.k, .slice A2 x.c.length c2, .slice A3 x.g.v.length c3, .slice A4 x.g.o.length c4, .slice A5 x.g.l.length c5, .slice A6 x.g.w.length c6] _ _ HZ.out)
      clear HZ
      generalize (w17.alloc (.cells #[.int .i64 0, .int .u8 0, .slice none 0 0, .slice none 0 0, .slice none 0 0, .slice none 0 0, .slice none 0 0] 45)).setRow w17.heap.size #[.int .i64 x.t, .int .u8 x.k, .slice A2 x.c.length c2, .slice A3 x.g.v.length c3, .slice A4 x.g.o.length c4, .slice A5 x.g.l.length c5, .slice A6 x.g.w.length c6] = w18 at *
      have hin78 := hin7.trans hin8
      go_wp2_with fail
      refine (at_two z (HTB.out.in_ hin78).swap HF3.out HME.out).mono ?_
      rintro e w19 ⟨ds, rfl, hK9, hin9⟩
      generalize (atOf m z).1 = y at *
      have hK9' := hK9
      obtain ⟨B2, d2, B3, d3, B4, d4, B5, d5, B6, d6, rfl, _⟩ := entK_open hK9'
      have HK9 := Lib.hid hK9
      have HZ := Lib.hid (blk_new w19 (.cells #[.int .i64 0, .int .u8 0, .slice none 0 0, .slice none 0 0, .slice none 0 0, .slice none 0 0, .slice none 0 0] 45))
      have HB9 := Lib.hid (blk_below HB8.out hin9.out)
      clear hK9 hK9' HB8
      go_upto_region 22 with (refine wpList_store_row rfl 45 (.tmp 23) (.tmp 137) rfl w19.heap.size #[.int .i64 y.t, .int .u8 y.k, .slice B2 y.c.length d2, .slice B3 y.g.v.length d3, .slice B4 y.g.o.length d4, .slice B5 y.g.l.length d5, .slice B6 y.g.w.length d6] rfl rfl 45 _ HZ.out size45 rfl (by simp [Value.oneCell']) ?_)
      have hin10 := In.setRow (In.alloc (In.refl w19) (.cells #[.int .i64 0, .int .u8 0, .slice none 0 0, .slice none 0 0, .slice none 0 0, .slice none 0 0, .slice none 0 0] 45)) (g := w19.heap.size) (Nat.le_refl _) #[.int .i64 y.t, .int .u8 y.k, .slice B2 y.c.length d2, .slice B3 y.g.v.length d3, .slice B4 y.g.o.length d4, .slice B5 y.g.l.length d5, .slice B6 y.g.w.length d6]
      have HB10 := Lib.hid (setRow_heap _ _ _ #[.int .i64 y.t, .int .u8 y.k, .slice B2 y.c.length d2, .slice B3 y.g.v.length d3, .slice B4 y.g.o.length d4, .slice B5 y.g.l.length d5, .slice B6 y.g.w.length d6] _ _ HZ.out)
      have HB11 := Lib.hid (blk_below HB9.out hin10.out)
      clear HZ HB9
      generalize (w19.alloc (.cells #[.int .i64 0, .int .u8 0, .slice none 0 0, .slice none 0 0, .slice none 0 0, .slice none 0 0, .slice none 0 0] 45)).setRow w19.heap.size #[.int .i64 y.t, .int .u8 y.k, .slice B2 y.c.length d2, .slice B3 y.g.v.length d3, .slice B4 y.g.o.length d4, .slice B5 y.g.l.length d5, .slice B6 y.g.w.length d6] = w20 at *
      have hin910 := hin9.trans hin10
      have HT20 := Lib.hid (HTB.out.in_ (hin78.trans hin910))
      have hin1420 := hin14b.trans (hin78.trans hin910)
      go_wp2_with fail
      refine (base_two HT20.out i3).mono ?_
      rintro e w21 ⟨v0, v1, v2, v3, rfl, hin21⟩
      have hfd := field27 m1.i m1.t v0 v1 v2 v3
      have hin1421 := hin1420.trans hin21
      by_cases hzi : m1.i < z
      · have hd2 : decide (m1.i < z) = true := decide_eq_true hzi
        obtain rfl := hxx.out hzi
        have HKX := Lib.hid (entK.K_below ((hin8.trans hin910).trans hin21).out HK7.out)
        have HKY := Lib.hid (entK.K_below (hin10.trans hin21).out HK9.out)
        have HX21 := Lib.hid (blk_below HB11.out hin21.out)
        have HY21 := Lib.hid (blk_below HB10.out hin21.out)
        have ra0 : w21.cell? ⟨w17.heap.size, 0, none⟩ = some (.int .i64 x.t) := blk_cell HX21.out 0
        have ra1 : w21.cell? ⟨w17.heap.size, 1, none⟩ = some (.int .u8 x.k) := blk_cell HX21.out 1
        have ra2 : w21.cell? ⟨w17.heap.size, 2, none⟩ = some (.slice A2 x.c.length c2) := blk_cell HX21.out 2
        have ra3 : w21.cell? ⟨w17.heap.size, 3, none⟩ = some (.slice A3 x.g.v.length c3) := blk_cell HX21.out 3
        have ra4 : w21.cell? ⟨w17.heap.size, 4, none⟩ = some (.slice A4 x.g.o.length c4) := blk_cell HX21.out 4
        have ra5 : w21.cell? ⟨w17.heap.size, 5, none⟩ = some (.slice A5 x.g.l.length c5) := blk_cell HX21.out 5
        have ra6 : w21.cell? ⟨w17.heap.size, 6, none⟩ = some (.slice A6 x.g.w.length c6) := blk_cell HX21.out 6
        have rb0 : w21.cell? ⟨w19.heap.size, 0, none⟩ = some (.int .i64 x.t) := blk_cell HY21.out 0
        have rb1 : w21.cell? ⟨w19.heap.size, 1, none⟩ = some (.int .u8 x.k) := blk_cell HY21.out 1
        have rb2 : w21.cell? ⟨w19.heap.size, 2, none⟩ = some (.slice B2 x.c.length d2) := blk_cell HY21.out 2
        have rb3 : w21.cell? ⟨w19.heap.size, 3, none⟩ = some (.slice B3 x.g.v.length d3) := blk_cell HY21.out 3
        have rb4 : w21.cell? ⟨w19.heap.size, 4, none⟩ = some (.slice B4 x.g.o.length d4) := blk_cell HY21.out 4
        have rb5 : w21.cell? ⟨w19.heap.size, 5, none⟩ = some (.slice B5 x.g.l.length d5) := blk_cell HY21.out 5
        have rb6 : w21.cell? ⟨w19.heap.size, 6, none⟩ = some (.slice B6 x.g.w.length d6) := blk_cell HY21.out 6
        go_wp2_with fail
        refine (sameEntry_any HKX.out HKY.out).mono ?_
        rintro e w22 ⟨rfl, hin22⟩
        have hret := hin1421.trans hin22
        clear ra0 rb0 ra1 rb1 ra2 rb2 ra3 rb3 ra4 rb4 ra5 rb5 ra6 rb6
        go_wp2_with fail
        go_roundw
        case rel => exact ⟨z + 1, by omega, by omega, rfl, hret⟩
        case measure => simp [intOf]; omega
      · have hd2 : decide (m1.i < z) = false := decide_eq_false hzi
        go_wp2_with fail
        go_roundw
        case rel => exact ⟨z + 1, by omega, by omega, rfl, hin1421⟩
        case measure => simp [intOf]; omega
    · have hd : decide (z ≤ m.last) = false := decide_eq_false hz
      have hinr := hw14.trans hin15
      have hend : In W w16 := hwo.trans (hin2.trans hinr)
      have c0 := Q.out w16 hinr
      have hp3 := pickI_range far (hv.length + 3)
      have hpk := fun w => pick_any far (hv.length + 3) w (by omega)
      generalize pickI far (hv.length + 3) = p3 at *
      rw [show ((hv.length + 3 : Nat) : Int) = (hv.length : Int) + 3 from rfl] at hpk
      obtain ⟨hp3a, hp3b, hp3c⟩ := hp3
      have HPK := Lib.hid hpk
      have hp2 := pickI_range far 2
      have hpk2 := fun w => pick_any far 2 w (by omega)
      rw [show ((2 : Nat) : Int) = 2 from rfl] at hpk2
      generalize pickI far 2 = p2 at *
      have HPK2 := Lib.hid hpk2
      have hp2' : p2 = 0 ∨ p2 = 1 := by obtain ⟨h1, h2, _⟩ := hp2; have := h2 (by omega); omega
      have HP2 := Lib.hid hp2'
      clear hp2 hp2' hpk hpk2 hp3b
      have hw1 : IntKind.i64.wrap (b.i + 1) = b.i + 1 := IntWalk.i64_in _ (by omega)
      have hw2' : IntKind.i64.wrap ((hv.length : Int) + 3) = (hv.length : Int) + 3 := IntWalk.i64_in _ (by omega)
      have hw3' : IntKind.i64.wrap (b.i + 1 + p3) = b.i + 1 + p3 := IntWalk.i64_in _ (by omega)
      obtain ⟨wa, na, rfl⟩ : ∃ (wa : World) (na : Nat), w16 = wa.drewN na := ⟨w16, 0, rfl⟩
      replace c0 : wa.cell? ⟨W.heap.size, 0, none⟩ = some (.int .i64 b.i) := c0
      go_upto_region 24 with (fail)
      go_quiet ((go_at_call 48; exact quiet_same (HPK.out _)))
      go_upto_region 25 with (fail)
      have hinq := In.drewN (In.refl (wa.drewN na)) nq
      have HT24 := Lib.hid (HTZ.out.in_ hinq)
      have hin24 := hinr.trans hinq
      clear c0 hw1 hw2' hw3' hinq HTZ
      generalize (wa.drewN na).drewN nq = w24 at *
      obtain ⟨t, is, ht⟩ : ∃ t is, termOf m.i m.t m.es (b.i + 1 + p3) = (t, is) := ⟨_, _, rfl⟩
      have hmi := HMI.out.1
      have hr := term_range (m := m) (k := b.i + 1 + p3) (by omega) (by rw [HMI.out.2.2.2]; exact HWT.out) ht
      obtain ⟨es, hinst, hes⟩ := install_ends (m := m) (k := b.i + 1 + p3) (by omega) ht p2 zCfg HP2.out hr
      have hc3 := term_two (b.i + 1 + p3) HT24.out.swap HF3.out
      rw [ht] at hc3
      have HC3 := Lib.hid hc3
      have HIN := Lib.hid hinst
      have HES := Lib.hid hes
      clear hc3 hinst hes ht hmi hr
      go_wp2_with fail
      (with_reducible refine HC3.out.mono ?_)
      rintro e w25 ⟨rfl, ⟨nb, rfl⟩⟩
      have hin25 := In.drewN (In.refl w24) nb
      have HT25 := Lib.hid (HT24.out.in_ hin25)
      have hin225 := hin24.trans hin25
      generalize w24.drewN nb = w25 at *
      clear HC3 HT24
      go_wp2_with fail
      (with_reducible refine (HPK2.out _).mono ?_)
      rintro e w26 ⟨rfl, rfl⟩
      have hcI := install_two (b := ⟨b.i + 1 + p3, RowKit.wrap64 (t + p2), zCfg⟩) HT25.out.swap hin225 (basK_mk (x := ⟨b.i + 1 + p3, RowKit.wrap64 (t + p2), zCfg⟩) (Nat.le_refl 0) (Kd.C_nil _ _) (Nat.le_refl 0) (Kd.C_nil _ _) (Nat.le_refl 0) (Kd.C_nil _ _) (Nat.le_refl 0) (Kd.C_nil _ _)) HF3.out (by simp [zCfg, Cfg.len])
      rw [HIN.out] at hcI
      have HCI := Lib.hid (show Calls Try.prog 21 #[.pointer (some ⟨q, 0, none⟩), .agg #[.int .i64 (b.i + 1 + p3), .int .i64 (RowKit.wrap64 (t + p2)), .slice none 0 0, .slice none 0 0, .slice none 0 0, .slice none 0 0]] w25 _ from hcI)
      clear hcI
      go_wp2_with fail
      (with_reducible refine HCI.out.mono ?_)
      rintro e w27 ⟨rfl, hT27, hin27⟩
      have HT27 := Lib.hid hT27
      clear hT27 HCI HT25
      generalize RowKit.wrap64 (t + p2) = tw at *
      have hfN : Fair (b.i + 1 + p3) es.length := ⟨by omega, by omega, by have h1 := HES.out; have h2 := HMI.out.2.2.1; split at h1 <;> omega⟩
      have hlw := fun (w' : World) (h : Two w2 w' q ⟨b.i + 1 + p3, tw, zCfg, es⟩ p m1) => last_two h hfN
      have hlv : LM.last ⟨b.i + 1 + p3, tw, zCfg, es⟩ = (if is = true ∧ p2 = 0 then m.last else b.i + 1 + p3) := HES.out
      rw [hlv] at hlw
      have hfin := hwo.trans (hin2.trans hin27)
      have c27 := Q.out w27 hin27
      cases is with
      | true =>
        by_cases hz2 : p2 = 0
        · rw [if_pos ⟨rfl, hz2⟩, HMI.out.2.2.1] at hlw
          have HLW := Lib.hid hlw
          subst hz2
          clear hlw hlv hfN
          go_wp2_with fail
          (with_reducible refine (HPK2.out _).mono ?_)
          rintro e w28 ⟨rfl, rfl⟩
          obtain ⟨wz, nz, rfl⟩ : ∃ (wz : World) (nz : Nat), w27 = wz.drewN nz := ⟨w27, 0, rfl⟩
          replace c27 : wz.cell? ⟨W.heap.size, 0, none⟩ = some (.int .i64 b.i) := c27
          have hw4' : IntKind.i64.wrap (b.i + (hv.length : Int)) = b.i + (hv.length : Int) := IntWalk.i64_in _ (by omega)
          go_upto_region 29 with (fail)
          go_quiet ((go_at_call 19; exact quiet_drawn (HLW.out _ (HT27.out.in_ (by rw [← World.drewN_drewN]; exact In.drewN (In.refl _) _)))))
          go_wp2_with fail
          go_ret
          exact ⟨rfl, In.drewN hfin _⟩
        · rw [if_neg (fun h => hz2 h.2)] at hlw
          have HLW := Lib.hid hlw
          have hd2 : (p2 == 0) = false := by rw [beq_eq_false_iff_ne]; exact hz2
          clear hlw hlv hz2
          go_wp2_with fail
          (with_reducible refine (HPK2.out _).mono ?_)
          rintro e w28 ⟨rfl, rfl⟩
          go_wp2_with fail
          (with_reducible refine (HLW.out _ HT27.out).mono ?_)
          rintro e w29 ⟨rfl, ⟨n29, rfl⟩⟩
          go_wp2_with fail
          refine (base_two (HT27.out.in_ (In.drewN (In.refl _) _)) (by simp [zCfg, Cfg.len])).mono ?_
          rintro e w30 ⟨v0, v1, v2, v3, rfl, hin30⟩
          have hfd := field27 (b.i + 1 + p3) tw v0 v1 v2 v3
          have hend2 := (In.drewN hfin n29).trans hin30
          go_wp2_with fail
          go_ret
          exact ⟨rfl, hend2⟩
      | false =>
        rw [if_neg (fun h => by cases h.1)] at hlw
        have HLW := Lib.hid hlw
        clear hlw hlv
        go_wp2_with fail
        (with_reducible refine (HLW.out _ HT27.out).mono ?_)
        rintro e w29 ⟨rfl, ⟨n29, rfl⟩⟩
        go_wp2_with fail
        refine (base_two (HT27.out.in_ (In.drewN (In.refl _) _)) (by simp [zCfg, Cfg.len])).mono ?_
        rintro e w30 ⟨v0, v1, v2, v3, rfl, hin30⟩
        have hfd := field27 (b.i + 1 + p3) tw v0 v1 v2 v3
        have hend2 := (In.drewN hfin n29).trans hin30
        go_wp2_with fail
        go_ret
        exact ⟨rfl, hend2⟩
theorem logCompact_walk (W : World) {b : Bas} {cs : List Value} (hB : basK.K W b cs) (fb : b.g.fits) (A : Option Addr) (cA : Nat) (hv : List Ent) (hH : entK.C W A hv.length hv) (fh : entsFit hv ∧ ∀ (j : Nat) (e : Ent), hv[j]? = some e → -9223372036854775808 ≤ e.t ∧ e.t ≤ 9223372036854775807) (hcA : hv.length ≤ cA) (index far : Int) :
    Calls Try.prog 10 #[.agg cs.toArray, .slice A hv.length cA, .int .i64 index, .int .i64 far] W fun e w' => e = .returned (.bool true) ∧ Below W.heap.size W w' :=
  (logCompact_any index far hB hH hcA fb fh.1 fh.2).mono fun _ _ h => ⟨h.1, h.2.out⟩
end Go.Proofs.Ytgpnfgjmdehfdaa
