/- LogTake, walked. -/
import Derived.Test.YtgpnfgjmdehfdaaAtB
import Derived.Deep.DeepCutAuto
namespace Go.Proofs.Ytgpnfgjmdehfdaa
set_option linter.unusedVariables false
set_option linter.unusedSimpArgs false
open Go.RowKit Go.Proofs.YtgpnfgjmdehfdaaW.PrintWords

theorem two_rowC {α : Type} {d : Kd α} {W : World} {x y : α} {cs ds : List Value} {e : TypeId} (h : d.K W x cs) (h2 : d.K W y ds) : d.C (W.alloc (.cells (cs ++ ds).toArray e)) (some ⟨W.heap.size, 0, none⟩) 2 [x, y] := by
  have hb := blk_new W (.cells (cs ++ ds).toArray e)
  refine ⟨rfl, by omega, fun _ => ⟨_, rfl, fun j p hp => ?_⟩⟩
  have hl := d.K_len h
  match j, hp with
  | 0, hp =>
    cases hp
    refine ⟨cs, hl, d.K_below (In.alloc (In.refl _) _).out h, fun i u hu => ?_⟩
    rw [show (0 * d.sz + i) = i from by omega, add_plain, blk_cell hb i, List.getElem?_toArray, List.getElem?_append_left (List.getElem?_eq_some_iff.1 hu).1, hu]
  | 1, hp =>
    cases hp
    refine ⟨ds, d.K_len h2, d.K_below (In.alloc (In.refl _) _).out h2, fun i u hu => ?_⟩
    rw [show (1 * d.sz + i) = cs.length + i from by omega, add_plain, blk_cell hb _, List.getElem?_toArray, List.getElem?_append_right (by omega), show cs.length + i - cs.length = i by omega, hu]
theorem fits_zBas : zBas.g.fits := ⟨by simp [zBas, zCfg], by simp [zBas, zCfg], by simp [zBas, zCfg], by simp [zBas, zCfg]⟩
theorem entsOf_each {xs : List Ent} : xs.length ≤ entsOf xs ∧ ∀ (j : Nat) (e : Ent), xs[j]? = some e → e.len ≤ entsOf xs := by
  induction xs with
  | nil => exact ⟨by simp, fun j e he => by simp at he⟩
  | cons x xs ih =>
    obtain ⟨h1, h2⟩ := ih
    refine ⟨?_, fun j e he => ?_⟩
    · simp only [List.length_cons, entsOf, Ent.len, Cfg.len]; omega
    · cases j with
      | zero => simp at he; subst he; simp only [entsOf]; omega
      | succ j => have := h2 j e (by simpa using he); simp only [entsOf]; omega
theorem small_ents {xs : List Ent} (h : entsOf xs ≤ 400) : entsSmall xs ∧ xs.length ≤ 400 := by
  obtain ⟨h1, h2⟩ := entsOf_each (xs := xs)
  refine ⟨⟨by omega, fun j e he => ?_⟩, by omega⟩
  have h3 := h2 j e he
  unfold Ent.len at h3
  omega
theorem nn_pos {x : Int} (h : 0 ≤ x) : nn x = x := by unfold nn; rw [if_neg (by omega)]
def Alike (m n : LM) (en : Int) : Prop := ∀ z, z ≤ en → (atOf m z).1 = (atOf n z).1
theorem Alike.refl (m : LM) (en : Int) : Alike m m en := fun _ _ => rfl
/-- What was taken stands there, and taken again it is nothing new. -/
def Took (m1 m : LM) (index : Int) (xs : List Ent) : Prop := (∀ (j : Nat) (x : Ent), xs[j]? = some x → termOf m.i m.t m1.es (index + j) = (x.t, true)) ∧ takeOf m1 index xs = (m1, 0, true)
def Near (m1 m : LM) : Prop := m1.i = m.i ∧ m1.t = m.t ∧ entsSmall m1.es ∧ m1.es.length ≤ 800
set_option maxRecDepth 100000 in
set_option maxHeartbeats 3200000 in
theorem logTake_any {b : Bas} {hv row : List Ent} (index : Int) {cs : List Value} {A B : Option Addr} {cA cB : Nat} {W : World} (hB : basK.K W b cs) (hH : entK.C W A hv.length hv) (hcA : hv.length ≤ cA) (hR : entK.C W B row.length row) (hcR : row.length ≤ cB) (fb : b.g.fits) (fh : entsFit hv) (fr : entsFit row) :
    Calls Try.prog 9 #[.agg cs.toArray, .slice A hv.length cA, .int .i64 index, .slice B row.length cB] W fun e w' => e = .returned (.bool true) ∧ In W w' := by
  have HK := Lib.hid hB
  obtain ⟨A2, c2, A3, c3, A4, c4, A5, c5, rfl, l2, g2', l3, g3', l4, g4', l5, g5'⟩ := basK_open hB
  have G := Lib.hid (And.intro g2' (And.intro g3' (And.intro g4' g5')))
  clear g2' g3' g4' g5'
  have HH := Lib.hid hH
  have HR := Lib.hid hR
  have F1 := Lib.hid (And.intro fb (And.intro fh fr))
  clear hB hH hR fb fh fr
  have hwo := In.alloc (In.refl W) (.cells #[.int .i64 b.i, .int .i64 b.t, .slice A2 b.g.v.length c2, .slice A3 b.g.o.length c3, .slice A4 b.g.l.length c4, .slice A5 b.g.w.length c5] 27)
  have kb := Lib.hid (box_cells W [.int .i64 b.i, .int .i64 b.t, .slice A2 b.g.v.length c2, .slice A3 b.g.o.length c3, .slice A4 b.g.l.length c4, .slice A5 b.g.w.length c5] 27)
  go_enter Try.func9, Try.ntmps9
  go_upto_region 1 with (fail)
  generalize W.alloc (.cells #[.int .i64 b.i, .int .i64 b.t, .slice A2 b.g.v.length c2, .slice A3 b.g.o.length c3, .slice A4 b.g.l.length c4, .slice A5 b.g.w.length c5] 27) = wo at *
  go_wp2_with fail
  refine (awake10_any wo).mono ?_
  rintro e w1 ⟨rfl, hb1⟩
  have hin1 : In wo w1 := hb1
  clear hb1
  have q0 : ∀ w', In wo w' → w'.cell? ⟨W.heap.size, 0, none⟩ = some (.int .i64 b.i) := fun w' h => kb.out w' h 0
  have q1 : ∀ w', In wo w' → w'.cell? ⟨W.heap.size, 1, none⟩ = some (.int .i64 b.t) := fun w' h => kb.out w' h 1
  have HC : ∀ w', In wo w' → CellsAt w' ⟨W.heap.size, 0, none⟩ [.int .i64 b.i, .int .i64 b.t, .slice A2 b.g.v.length c2, .slice A3 b.g.o.length c3, .slice A4 b.g.l.length c4, .slice A5 b.g.w.length c5] := fun w' h i v hv => by rw [add_plain, kb.out w' h i]; exact hv
  replace HC := Lib.hid HC
  have Q0 := Lib.hid q0
  have Q1 := Lib.hid q1
  clear q0 q1
  have HC1 := Lib.hid (HC.out w1 hin1)
  go_wp2_with (refine wpList_load_any rfl 27 (.tmp 4) rfl ⟨W.heap.size, 0, none⟩ rfl _ _ HC1.out Try.underlying27 rfl size27 ?_)
  obtain ⟨g2, g3, g4, g5⟩ := G.out
  have ha1 := actK_mk (w := w1) (x := ⟨0, index, hv, b⟩) (A2 := A) (c2 := cA) hcA (Kd.C_below HH.out (hwo.trans hin1).out) l2 (Kd.C_below g2 (hwo.trans hin1).out) l3 (Kd.C_below g3 (hwo.trans hin1).out) l4 (Kd.C_below g4 (hwo.trans hin1).out) l5 (Kd.C_below g5 (hwo.trans hin1).out)
  have ha2 := actK_mk (w := w1) (x := ⟨0, 0, row, zBas⟩) (A2 := B) (c2 := cB) hcR (Kd.C_below HR.out (hwo.trans hin1).out) (Nat.le_refl 0) (Kd.C_nil _ _) (Nat.le_refl 0) (Kd.C_nil _ _) (Nat.le_refl 0) (Kd.C_nil _ _) (Nat.le_refl 0) (Kd.C_nil _ _)
  have hrow := two_rowC (e := 29) ha1 ha2
  refine (great10_any hrow (fun j y hy => by
    match j, hy with
    | 0, hy => cases hy; exact ⟨F1.out.2.1, F1.out.1⟩
    | 1, hy => cases hy; exact ⟨F1.out.2.2, fits_zBas⟩)).mono ?_
  clear ha1 ha2 hrow g2 g3 g4 g5 G
  rintro e w2 ⟨bb, rfl, hb2, hsm⟩
  have hin2 : In wo w2 := (In.alloc hin1 _).trans hb2
  have HS := Lib.hid hsm
  clear hsm hb2
  have q0 := Q0.out w2 hin2
  have q1 := Q1.out w2 hin2
  cases bb with
  | true =>
    go_wp2_with fail
    go_ret
    exact ⟨rfl, hwo.trans hin2⟩
  | false =>
  obtain ⟨s1, s2⟩ := HS.out rfl
  obtain ⟨e1, e2, e3, e4⟩ := s2 0 _ rfl
  obtain ⟨e5, _, _, _⟩ := s2 1 _ rfl
  dsimp only at e1 e2 e3 e4 e5
  clear s1 s2 HS
  by_cases h0 : b.i < 0
  · have hd : decide (b.i < 0) = true := decide_eq_true h0
    go_wp2_with fail
    go_ret
    exact ⟨rfl, hwo.trans hin2⟩
  have hd0 : decide (b.i < 0) = false := decide_eq_false h0
  by_cases h1 : b.t < 0
  · have hd : decide (b.t < 0) = true := decide_eq_true h1
    go_wp2_with fail
    go_ret
    exact ⟨rfl, hwo.trans hin2⟩
  have hd1 : decide (b.t < 0) = false := decide_eq_false h1
  go_upto_region 5 with (fail)
  have HB2 := Lib.hid (fun w' (h : In w2 w') => basK.K_below (hwo.trans (hin2.trans h)).out HK.out)
  have hlen : b.g.len ≤ 1000000000 := by omega
  clear q0 q1 HC1 hd0 hd1
  have q0 : ∀ w', In w2 w' → w'.cell? ⟨W.heap.size, 0, none⟩ = some (.int .i64 b.i) := fun w' h => kb.out w' (hin2.trans h) 0
  have q1 : ∀ w', In w2 w' → w'.cell? ⟨W.heap.size, 1, none⟩ = some (.int .i64 b.t) := fun w' h => kb.out w' (hin2.trans h) 1
  have q2 : ∀ w', In w2 w' → w'.cell? ⟨W.heap.size, 2, none⟩ = some (.slice A2 b.g.v.length c2) := fun w' h => kb.out w' (hin2.trans h) 2
  have q3 : ∀ w', In w2 w' → w'.cell? ⟨W.heap.size, 3, none⟩ = some (.slice A3 b.g.o.length c3) := fun w' h => kb.out w' (hin2.trans h) 3
  have q4 : ∀ w', In w2 w' → w'.cell? ⟨W.heap.size, 4, none⟩ = some (.slice A4 b.g.l.length c4) := fun w' h => kb.out w' (hin2.trans h) 4
  have q5 : ∀ w', In w2 w' → w'.cell? ⟨W.heap.size, 5, none⟩ = some (.slice A5 b.g.w.length c5) := fun w' h => kb.out w' (hin2.trans h) 5
  go_region_held3 (fun w' => In w2 w') (first | exact In.drew (In.refl _) | exact In.next (by assumption) (by assumption) | assumption)
    (first
      | (go_at_call 49; have tok := hLp; clear tok; (with_reducible refine Calls.mono (new_any (HB2.out _ (by assumption)) hlen) ?_); rintro e wq ⟨q, rfl, hLq, hqq, hiq⟩)
      | (go_at_call 49; (with_reducible refine Calls.mono (new_any (HB2.out _ (by assumption)) hlen) ?_); rintro e wp ⟨p, rfl, hLp, hpp, hip⟩; have hplt := hLp.lt))
  have hs2 := hin2.size
  have hwp : In w2 wp := (In.drew (In.refl w2)).trans hip
  have hwq : In w2 wq := hwp.trans hiq
  have hnew : Two w2 wq p ⟨b.i, b.t, b.g, []⟩ q ⟨b.i, b.t, b.g, []⟩ := by
    rw [nn_pos h0, nn_pos h1] at hLp hLq
    exact two_new hwp ((hLp.bound.in_ hiq).mono (fun k hk => ⟨hk.1.1, hk.2, hk.1.2⟩) (fun h => h.2.2 rfl)) hpp hplt hLq hqq
  obtain ⟨sh, lh⟩ := small_ents e1
  obtain ⟨sr, lr⟩ := small_ents e5
  have SH := Lib.hid sh
  have SR := Lib.hid sr
  have HN := Lib.hid hnew
  have Q := Lib.hid q0
  clear hnew hLp hLq sh sr q0 q1 q2 q3 q4 q5 hip hpp hiq hqq HB2
  go_wp2_with fail
  refine (put_two (xs := hv) HN.out hwq (Kd.C_below HH.out (hwo.trans (hin2.trans hwq)).out) SH.out ⟨h0, (show b.i ≤ 1000000000000 by omega), (by simp; omega)⟩).mono ?_
  rintro e w3 ⟨rfl, hT3, hw3⟩
  have HT3 := Lib.hid hT3.swap
  clear hT3 HN
  go_wp2_with fail
  refine (put_two (xs := hv) HT3.out hw3 (Kd.C_below HH.out (hwo.trans (hin2.trans hw3)).out) SH.out ⟨h0, (show b.i ≤ 1000000000000 by omega), (by simp; omega)⟩).mono ?_
  rintro e w4 ⟨rfl, hT4, hw4⟩
  have HT4 := Lib.hid (show Two w2 w4 p ⟨b.i, b.t, b.g, hv⟩ q ⟨b.i, b.t, b.g, hv⟩ from hT4.swap)
  clear hT4 HT3
  obtain ⟨m, hm⟩ : ∃ m : LM, m = ⟨b.i, b.t, b.g, hv⟩ := ⟨_, rfl⟩
  have hmi : m.i = b.i := by rw [hm]
  have hml : m.es.length = hv.length := by rw [hm]
  have hme : entsSmall m.es := by rw [hm]; exact SH.out
  rw [← hm] at HT4
  have HME := Lib.hid hme
  have hfr : Fair m.i (m.es.length + row.length + 1) := ⟨by omega, by omega, by omega⟩
  have HFR := Lib.hid hfr
  clear hm hme hfr
  have hcall := take_two (c := cB) index HT4.out hw4 (Kd.C_below HR.out (hwo.trans hin2).out) hcR SR.out HFR.out
  have hmain : ∃ (m1 : LM) (a en : Int) (ok : Bool), takeOf m index row = (m1, a, ok) ∧ (ok = (decide (b.i < index) && decide (index ≤ b.i + hv.length + 1))) ∧ (a ≠ 0 → (index ≤ a ∧ a < index + row.length ∧ b.i < index ∧ index ≤ b.i + hv.length + 1 ∧ en = a - 1 ∧ m1.last = index + row.length - 1 ∧ Took m1 m index row)) ∧ (a = 0 → en = m.last ∧ m1 = m) ∧ Alike m1 m en ∧ Near m1 m := by
    rcases take_ways m index row with ⟨hout, htk⟩ | ⟨⟨hi1, hi2⟩, htk | ⟨k, h, hk, hh, hle, hj, htk⟩⟩
    · refine ⟨m, 0, m.last, false, htk, ?_, fun h => absurd rfl h, fun _ => ⟨rfl, rfl⟩, Alike.refl _ _, rfl, rfl, HME.out, by omega⟩
      unfold LM.last at hout
      rw [hmi, hml] at hout
      rcases hout with hout | hout
      · rw [decide_eq_false (show ¬ b.i < index by omega)]; rfl
      · rw [decide_eq_false (show ¬ index ≤ b.i + hv.length + 1 by omega), Bool.and_false]
    · refine ⟨m, 0, m.last, true, htk, ?_, fun h => absurd rfl h, fun _ => ⟨rfl, rfl⟩, Alike.refl _ _, rfl, rfl, HME.out, by omega⟩
      unfold LM.last at hi2
      rw [hmi] at hi1 hi2
      rw [hml] at hi2
      rw [decide_eq_true hi1, decide_eq_true hi2]; rfl
    · have hl := cut_last (m := m) (ys := row.drop k) hle
      rw [List.length_drop] at hl
      unfold LM.last at hi2
      rw [hmi] at hi1 hi2 hh
      rw [hml] at hi2
      refine ⟨m.cut h (row.drop k), index + k, index + k - 1, true, htk, ?_, fun _ => ⟨by omega, by omega, hi1, hi2, rfl, by rw [hl]; omega, ?_⟩, fun h => by omega, fun z hz => ?_, rfl, rfl, ⟨?_, ?_⟩, ?_⟩
      · rw [decide_eq_true hi1, decide_eq_true hi2]; rfl
      · exact ⟨fun j x hx => cut_term hk (by omega) hle (by omega) hj hx, take_again hk (by omega) hle (by omega) hj⟩
      · rw [cut_at hle (by omega)]
      · simp only [LM.cut, List.length_append, List.length_take, List.length_drop]; omega
      · intro j e he
        simp only [LM.cut] at he
        by_cases hjl : j < (m.es.take h).length
        · rw [List.getElem?_append_left hjl, List.getElem?_take] at he
          split at he
          · exact HME.out.2 j e he
          · cases he
        · rw [List.getElem?_append_right (by omega), List.getElem?_drop] at he
          exact SR.out.2 _ e he
      · simp only [LM.cut, List.length_append, List.length_take, List.length_drop]; omega
  obtain ⟨m1, a, en, ok, htk, hok, ha1, ha0, hal, hnr1, hnr2, hnr3, hnr4⟩ := hmain
  have HN3 := Lib.hid hnr3
  have HN2 := Lib.hid hnr2
  have hf1 : Fair m1.i (m1.es.length + row.length + 1) := ⟨by omega, by omega, by omega⟩
  have HF1 := Lib.hid hf1
  have hf2 : Fair m1.i m1.es.length := ⟨by omega, by omega, by omega⟩
  have HF2 := Lib.hid hf2
  have hf3 : Fair m.i m.es.length := ⟨by omega, by omega, by omega⟩
  have HF3 := Lib.hid hf3
  have HNI := Lib.hid hnr1
  have HMI := Lib.hid (And.intro hmi hml)
  clear hnr1 hnr2 hnr3 hf1 hf2 hf3
  rw [htk] at hcall
  have HCALL := Lib.hid hcall
  have HOK := Lib.hid hok
  have HA1 := Lib.hid ha1
  have HA0 := Lib.hid ha0
  have HAL := Lib.hid hal
  clear hcall hok ha1 ha0 hal htk
  go_wp2_with fail
  refine HCALL.out.mono ?_
  rintro e w5 ⟨rfl, hT5, hw5⟩
  have HT5 := Lib.hid hT5
  clear hT5 HCALL HT4 hmi hml
  have c0 := Q.out w5 hw5
  go_upto_region 9 with (fail)
  go_cut [93] (fun s wx => s = .bool false ∧ Hid (Two w2 wx p m1 q m) ∧ In w2 wx)
  case first =>
    by_cases ha : a = 0
    · subst ha
      by_cases hb1 : b.i < index
      all_goals by_cases hb2 : index ≤ b.i + hv.length + 1
      all_goals first | (exfalso; omega) | skip
      all_goals
        have hd1 : decide (b.i < index) = decide (b.i < index) := rfl
        have hd2 : decide (index ≤ b.i + (hv.length : Int) + 1) = decide (index ≤ b.i + (hv.length : Int) + 1) := rfl
        first | rw [decide_eq_true hb1] at HOK | rw [decide_eq_false hb1] at HOK
        first | rw [decide_eq_true hb2] at HOK | rw [decide_eq_false hb2] at HOK
        obtain rfl := HOK.out
        clear HOK
        first | replace hd1 := decide_eq_true hb1 | replace hd1 := decide_eq_false hb1
        first | replace hd2 := decide_eq_true hb2 | replace hd2 := decide_eq_false hb2
        go_wp2_with fail
        go_meet
        exact ⟨rfl, HT5, hw5⟩
    · obtain ⟨a1, a2, hb1, hb2, _⟩ := HA1.out ha
      rw [decide_eq_true hb1, decide_eq_true hb2] at HOK
      obtain rfl := HOK.out
      have hd1 : decide (b.i < index) = true := decide_eq_true hb1
      have hd2 : decide (index ≤ b.i + (hv.length : Int) + 1) = true := decide_eq_true hb2
      have hd3 : (a == 0) = false := by rw [beq_eq_false_iff_ne]; exact ha
      have hd4 : decide (a < index) = false := decide_eq_false (by omega)
      have hd5 : decide (index + (row.length : Int) ≤ a) = false := decide_eq_false (by omega)
      go_wp2_with fail
      go_meet
      exact ⟨rfl, HT5, hw5⟩
  case rest =>
  clear hw5 HT5 c0
  obtain ⟨rfl, HT5, hw5⟩ := hcut
  go_wp2_with fail
  refine (last_two HT5.out.swap HF3.out).mono ?_
  rintro e wl ⟨rfl, ⟨nl, rfl⟩⟩
  have hinl := In.drewN (In.refl wc) nl
  have HT6 := Lib.hid (HT5.out.in_ hinl)
  have hw6 : In w2 (wc.drewN nl) := hw5.trans hinl
  clear hinl HT5
  generalize wc.drewN nl = w6 at *
  go_upto_if 97 with (fail)
  go_cut [13] (fun s wx => s = .int .i64 en ∧ Hid (Two w2 wx p m1 q m) ∧ In w2 wx)
  case first =>
    by_cases ha : a = 0
    · obtain ⟨hen, _⟩ := HA0.out ha
      subst ha
      go_wp2_with fail
      go_meet
      exact ⟨by rw [hen], HT6, hw6⟩
    · obtain ⟨a1, a2, hb1, hb2, hen, _⟩ := HA1.out ha
      have hd3 : (a == 0) = false := by rw [beq_eq_false_iff_ne]; exact ha
      go_wp2_with fail
      go_meet
      exact ⟨by rw [hen], HT6, hw6⟩
  case rest =>
  clear HT6 hw6
  obtain ⟨rfl, HT6, hw6⟩ := hcut
  have hen0 : b.i ≤ en + 1 ∧ en ≤ 2000000000000 := by
    have hl : m.last = b.i + hv.length := by unfold LM.last; rw [HMI.out.1, HMI.out.2]
    by_cases ha : a = 0
    · obtain ⟨hen, _⟩ := HA0.out ha
      omega
    · obtain ⟨a1, a2, hb1, hb2, hen, _⟩ := HA1.out ha
      omega
  obtain ⟨hen0, hen1⟩ := hen0
  have c0 := Q.out wc hw6
  go_wp2_with fail
  clear c0
  go_loopw [14] (fun i wr => ∃ z : Int, b.i ≤ z ∧ z ≤ en + 1 ∧ i = .int .i64 z ∧ In wc wr) (fun i _ => (en + 1 - intOf i).toNat)
  case atStart => exact ⟨b.i, by omega, by omega, rfl, In.refl _⟩
  case round =>
    obtain ⟨z, hz0, hz1, rfl, hin⟩ := hrel
    by_cases hz : z ≤ en
    · have hd : decide (z ≤ en) = true := decide_eq_true hz
      go_wp2_with fail
      refine (at_two z (HT6.out.in_ hin) HF2.out HN3.out).mono ?_
      rintro e w7 ⟨ds, rfl, hK7, hin7⟩
      have hx := HAL.out z hz
      obtain ⟨x, hxx⟩ : ∃ x, x = (atOf m z).1 := ⟨_, rfl⟩
      rw [hx, ← hxx] at hK7
      have HXX := Lib.hid hxx
      clear hx hxx
      have hK7' := hK7
      obtain ⟨A2, c2, A3, c3, A4, c4, A5, c5, A6, c6, rfl, _⟩ := entK_open hK7'
      have HK7 := Lib.hid hK7
      have HZ := Lib.hid (blk_new w7 (.cells #[.int .i64 0, .int .u8 0, .slice none 0 0, .slice none 0 0, .slice none 0 0, .slice none 0 0, .slice none 0 0] 45))
      clear hK7 hK7'
      go_upto_region 18 with (refine wpList_store_row rfl 45 (.tmp 15) (.tmp 111) rfl w7.heap.size #[.int .i64 x.t, .int .u8 x.k, .slice A2 x.c.length c2, .slice A3 x.g.v.length c3, .slice A4 x.g.o.length c4, .slice A5 x.g.l.length c5, .slice A6 x.g.w.length c6] rfl rfl 45 _ HZ.out size45 rfl (by simp [Value.oneCell']) ?_)
      have hin8 := In.setRow (In.alloc (In.refl w7) (.cells #[.int .i64 0, .int .u8 0, .slice none 0 0, .slice none 0 0, .slice none 0 0, .slice none 0 0, .slice none 0 0] 45)) (g := w7.heap.size) (Nat.le_refl _) #[.int .i64 x.t, .int .u8 x.k, .slice A2 x.c.length c2, .slice A3 x.g.v.length c3, .slice A4 x.g.o.length c4, .slice A5 x.g.l.length c5, .slice A6 x.g.w.length c6]
      have HB8 := Lib.hid (setRow_heap _ _ _ #[.int .i64 x.t, .int .u8 x.k, .slice A2 x.c.length c2, .slice A3 x.g.v.length c3, .slice A4 x.g.o.length c4, .slice A5 x.g.l.length c5, .slice A6 x.g.w.length c6] _ _ HZ.out)
      clear HZ
      generalize (w7.alloc (.cells #[.int .i64 0, .int .u8 0, .slice none 0 0, .slice none 0 0, .slice none 0 0, .slice none 0 0, .slice none 0 0] 45)).setRow w7.heap.size #[.int .i64 x.t, .int .u8 x.k, .slice A2 x.c.length c2, .slice A3 x.g.v.length c3, .slice A4 x.g.o.length c4, .slice A5 x.g.l.length c5, .slice A6 x.g.w.length c6] = w8 at *
      have hin78 := hin.trans (hin7.trans hin8)
      go_wp2_with fail
      refine (at_two z (HT6.out.in_ hin78).swap HF3.out HME.out).mono ?_
      rintro e w9 ⟨ds, rfl, hK9, hin9⟩
      rw [← HXX.out] at hK9
      have hK9' := hK9
      obtain ⟨B2, d2, B3, d3, B4, d4, B5, d5, B6, d6, rfl, _⟩ := entK_open hK9'
      have HK9 := Lib.hid hK9
      have HZ := Lib.hid (blk_new w9 (.cells #[.int .i64 0, .int .u8 0, .slice none 0 0, .slice none 0 0, .slice none 0 0, .slice none 0 0, .slice none 0 0] 45))
      have HB9 := Lib.hid (blk_below HB8.out hin9.out)
      clear hK9 hK9' HB8
      go_upto_region 19 with (refine wpList_store_row rfl 45 (.tmp 17) (.tmp 117) rfl w9.heap.size #[.int .i64 x.t, .int .u8 x.k, .slice B2 x.c.length d2, .slice B3 x.g.v.length d3, .slice B4 x.g.o.length d4, .slice B5 x.g.l.length d5, .slice B6 x.g.w.length d6] rfl rfl 45 _ HZ.out size45 rfl (by simp [Value.oneCell']) ?_)
      have hin10 := In.setRow (In.alloc (In.refl w9) (.cells #[.int .i64 0, .int .u8 0, .slice none 0 0, .slice none 0 0, .slice none 0 0, .slice none 0 0, .slice none 0 0] 45)) (g := w9.heap.size) (Nat.le_refl _) #[.int .i64 x.t, .int .u8 x.k, .slice B2 x.c.length d2, .slice B3 x.g.v.length d3, .slice B4 x.g.o.length d4, .slice B5 x.g.l.length d5, .slice B6 x.g.w.length d6]
      have HB10 := Lib.hid (setRow_heap _ _ _ #[.int .i64 x.t, .int .u8 x.k, .slice B2 x.c.length d2, .slice B3 x.g.v.length d3, .slice B4 x.g.o.length d4, .slice B5 x.g.l.length d5, .slice B6 x.g.w.length d6] _ _ HZ.out)
      have HB11 := Lib.hid (blk_below HB9.out hin10.out)
      clear HZ HB9
      generalize (w9.alloc (.cells #[.int .i64 0, .int .u8 0, .slice none 0 0, .slice none 0 0, .slice none 0 0, .slice none 0 0, .slice none 0 0] 45)).setRow w9.heap.size #[.int .i64 x.t, .int .u8 x.k, .slice B2 x.c.length d2, .slice B3 x.g.v.length d3, .slice B4 x.g.o.length d4, .slice B5 x.g.l.length d5, .slice B6 x.g.w.length d6] = w10 at *
      have hin910 := hin9.trans hin10
      go_wp2_with (first
        | (refine wpList_load_row rfl 45 (.tmp 15) rfl w7.heap.size rfl 45 #[.int .i64 x.t, .int .u8 x.k, .slice A2 x.c.length c2, .slice A3 x.g.v.length c3, .slice A4 x.g.o.length c4, .slice A5 x.g.l.length c5, .slice A6 x.g.w.length c6] (0, 0) _ HB11.out Try.underlying45 rfl size45 ?_)
        | (refine wpList_load_row rfl 45 (.tmp 17) rfl w9.heap.size rfl 45 #[.int .i64 x.t, .int .u8 x.k, .slice B2 x.c.length d2, .slice B3 x.g.v.length d3, .slice B4 x.g.o.length d4, .slice B5 x.g.l.length d5, .slice B6 x.g.w.length d6] (0, 0) _ HB10.out Try.underlying45 rfl size45 ?_))
      refine (sameEntry_any (x := x) (entK.K_below (hin8.trans hin910).out HK7.out) (entK.K_below hin10.out HK9.out)).mono ?_
      rintro e w11 ⟨rfl, hin11⟩
      have hret := (hin78.trans hin910).trans hin11
      go_wp2_with fail
      go_roundw
      case rel => exact ⟨z + 1, by omega, by omega, rfl, hret⟩
      case measure => simp [intOf]; omega
    · have hd : decide (z ≤ en) = false := decide_eq_false hz
      have hinr := hw6.trans hin
      have HTR := Lib.hid (HT6.out.in_ hin)
      have hend : In W wr := hwo.trans (hin2.trans hinr)
      by_cases ha : a = 0
      · obtain ⟨_, rfl⟩ := HA0.out ha
        subst ha
        go_wp2_with fail
        refine (last_two HTR.out HF2.out).mono ?_
        rintro e w7 ⟨rfl, ⟨n1, rfl⟩⟩
        go_wp2_with fail
        refine (last_two (HTR.out.in_ (In.drewN (In.refl _) _)).swap HF2.out).mono ?_
        rintro e w8 ⟨rfl, ⟨n2, rfl⟩⟩
        go_wp2_with fail
        go_ret
        exact ⟨rfl, In.drewN hend _⟩
      · obtain ⟨a1, a2, hb1, hb2, _, hl1, hto⟩ := HA1.out ha
        have hd3 : (a == 0) = false := by rw [beq_eq_false_iff_ne]; exact ha
        have HTO := Lib.hid hto
        have HL1 := Lib.hid hl1
        clear hl1 hto
        go_wp2_with fail
        go_loopw [19] (fun i wz => ∃ j : Nat, j ≤ row.length ∧ i = .int .i64 j ∧ In wr wz) (fun i _ => row.length - (intOf i).toNat)
        case atStart => exact ⟨0, by omega, rfl, In.refl _⟩
        case round =>
          obtain ⟨j, hj, rfl, hinz⟩ := hrel
          have hTz := HTR.out.in_ hinz
          have HTZ := Lib.hid hTz
          have hendz := hend.trans hinz
          clear hTz
          by_cases hjl : j < row.length
          · have hdj : decide ((j : Int) < (row.length : Int)) = true := decide_eq_true (by omega)
            have hwj : IntKind.i64.wrap (index + (j : Int)) = index + (j : Int) := IntWalk.i64_in _ (by omega)
            obtain ⟨ad, x, A2, c2, A3, c3, A4, c4, A5, c5, A6, c6, rfl, hx, k0, _⟩ := entK_at (Kd.C_below HR.out hendz.out) hjl
            have htm := HTO.out.1 j x hx
            rw [← HN2.out, ← HNI.out] at htm
            have hcall := term_two (index + (j : Int)) HTZ.out HF2.out
            rw [htm] at hcall
            have HC2 := Lib.hid hcall
            clear hcall htm hx
            go_wp2_with fail
            refine HC2.out.mono ?_
            rintro e w7 ⟨rfl, ⟨n1, rfl⟩⟩
            go_wp2_with fail
            go_roundw
            case rel => exact ⟨j + 1, by omega, by go_num, In.drewN hinz _⟩
            case measure => simp [intOf]; omega
          · obtain rfl : j = row.length := by omega
            have hdj : decide ((row.length : Int) < (row.length : Int)) = false := decide_eq_false (by omega)
            have hcall := take_two (c := cB) index HTZ.out (hinr.trans hinz) (Kd.C_below HR.out (hwo.trans hin2).out) hcR SR.out HF1.out
            rw [HTO.out.2] at hcall
            have HC2 := Lib.hid hcall
            clear hcall
            go_wp2_with fail
            refine HC2.out.mono ?_
            rintro e w7 ⟨rfl, hT7, hin7⟩
            have HT7 := Lib.hid hT7
            clear hT7
            have hcl := last_two HT7.out HF2.out
            rw [HL1.out] at hcl
            have HCL := Lib.hid hcl
            have hw1 : IntKind.i64.wrap (index + (row.length : Int)) = index + (row.length : Int) := IntWalk.i64_in _ (by omega)
            have hw2 : IntKind.i64.wrap (index + (row.length : Int) - 1) = index + (row.length : Int) - 1 := IntWalk.i64_in _ (by omega)
            clear hcl
            have hfin : In W w7 := hwo.trans (hin2.trans hin7)
            go_wp2_with fail
            refine HCL.out.mono ?_
            rintro e w8 ⟨rfl, ⟨n2, rfl⟩⟩
            go_wp2_with fail
            go_ret
            exact ⟨rfl, In.drewN hfin _⟩
theorem logTake_walk (W : World) {b : Bas} {cs : List Value} (hB : basK.K W b cs) (fb : b.g.fits) (A : Option Addr) (cA : Nat) (hv : List Ent) (hH : entK.C W A hv.length hv) (fh : entsFit hv) (hcA : hv.length ≤ cA) (index : Int) (B : Option Addr) (cB : Nat) (row : List Ent) (hR : entK.C W B row.length row) (fr : entsFit row) (hcR : row.length ≤ cB) :
    Calls Try.prog 9 #[.agg cs.toArray, .slice A hv.length cA, .int .i64 index, .slice B row.length cB] W fun e w' => e = .returned (.bool true) ∧ Below W.heap.size W w' :=
  (logTake_any index hB hH hcA hR hcR fb fh fr).mono fun _ _ h => ⟨h.1, h.2.out⟩
end Go.Proofs.Ytgpnfgjmdehfdaa
