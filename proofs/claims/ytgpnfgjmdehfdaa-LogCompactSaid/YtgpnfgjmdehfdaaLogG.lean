/- A log stands on a base from elsewhere. -/
import Derived.Test.YtgpnfgjmdehfdaaLogF
namespace Go.Proofs.Ytgpnfgjmdehfdaa
set_option linter.unusedVariables false
set_option linter.unusedSimpArgs false
open Go.RowKit Go.Proofs.YtgpnfgjmdehfdaaW.PrintWords

theorem installOf_many {m : LM} {b : Bas} (h : m.i < b.i) : ∃ many : Nat, many ≤ m.es.length ∧ installOf m b = (⟨b.i, b.t, b.g, m.es.drop many⟩, true) ∧
    ((m.last < b.i ∧ many = m.es.length) ∨ ∃ (j : Nat) (x : Ent), b.i = m.i + 1 + j ∧ m.es[j]? = some x ∧ ((x.t = b.t ∧ many = j + 1) ∨ (x.t ≠ b.t ∧ many = m.es.length))) := by
  unfold installOf LM.last
  rw [if_neg (by omega)]
  by_cases hl : m.i + m.es.length < b.i
  · refine ⟨m.es.length, Nat.le_refl _, ?_, .inl ⟨hl, rfl⟩⟩
    have : termOf m.i m.t m.es b.i ≠ (b.t, true) := by
      unfold termOf
      rw [if_neg (by omega), if_neg (by omega)]
      simp
    rw [if_neg this, List.drop_length]
  · obtain ⟨j, hj⟩ := Int.eq_ofNat_of_zero_le (show 0 ≤ b.i - m.i - 1 by omega)
    have hjl : j < m.es.length := by omega
    have hx := List.getElem?_eq_getElem hjl
    have ht := termOf_in (t := m.t) (show b.i = m.i + 1 + (j : Int) by omega) hx
    rw [ht]
    by_cases he : m.es[j].t = b.t
    · refine ⟨j + 1, by omega, ?_, .inr ⟨j, _, by omega, hx, .inl ⟨he, rfl⟩⟩⟩
      rw [if_pos (by rw [he]), show (b.i - m.i).toNat = j + 1 by omega]
    · refine ⟨m.es.length, Nat.le_refl _, ?_, .inr ⟨j, _, by omega, hx, .inr ⟨he, rfl⟩⟩⟩
      rw [if_neg (fun h => he (by injection h)), List.drop_length]
set_option maxRecDepth 100000 in
set_option maxHeartbeats 1600000 in
theorem install_any {p : Nat} {ok : Nat → Prop} {m : LM} {W : World} {b : Bas} {cs : List Value} (hL : IsLog W p ok m) (hB : basK.K W b cs) (hf : Fair m.i m.es.length) (hg : b.g.len ≤ 1000000000) :
    Calls Try.prog 21 #[.pointer (some ⟨p, 0, none⟩), .agg cs.toArray] W fun e w' => e = .returned (.bool (installOf m b).2) ∧ IsLog w' p (fun k => ok k ∨ W.heap.size ≤ k) (installOf m b).1 ∧ Kept W w' (fun k => k = p ∨ ok k) ∧ Below 0 W w' := by
  have hpl := hL.lt
  have hp : ¬ (ok p ∨ W.heap.size ≤ p) := by
    obtain ⟨_, _, _, _, _, _, _, _, _, _, _, _, _, h⟩ := hL
    exact fun hh => hh.elim h (fun h => by omega)
  have HP := Lib.hid hp
  obtain ⟨D0, d0, D1, d1, D2, d2, D3, d3, rfl, _⟩ := basK_open hB
  have hin0 := In.alloc (In.refl W) (.cells #[.int .i64 b.i, .int .i64 b.t, .slice D0 b.g.v.length d0, .slice D1 b.g.o.length d1, .slice D2 b.g.l.length d2, .slice D3 b.g.w.length d3] 27)
  have kb := box_cells W [.int .i64 b.i, .int .i64 b.t, .slice D0 b.g.v.length d0, .slice D1 b.g.o.length d1, .slice D2 b.g.l.length d2, .slice D3 b.g.w.length d3] 27
  have HKB := Lib.hid kb
  have HB := Lib.hid hB
  have HL := Lib.hid (hL.in_ hin0)
  have HL0 := Lib.hid hL
  obtain ⟨A, c, hS, hC⟩ := (hL.in_ hin0).sees
  have HC := Lib.hid hC
  have HS := Lib.hid hS
  have HF := Lib.hid hf
  obtain ⟨f0, f1, f2⟩ := hf
  have c0 := hS.c0
  have c6 := hS.c6
  have c7 := hS.c7
  clear hp hB hL hC hS kb
  go_enter Try.func21, Try.ntmps21
  go_upto_region 1 with (fail)
  generalize W.alloc (.cells #[.int .i64 b.i, .int .i64 b.t, .slice D0 b.g.v.length d0, .slice D1 b.g.o.length d1, .slice D2 b.g.l.length d2, .slice D3 b.g.w.length d3] 27) = w1 at *
  have q0 : w1.cell? ⟨W.heap.size, 0, none⟩ = some (.int .i64 b.i) := HKB.out w1 (In.refl _) 0
  have q1 : w1.cell? ⟨W.heap.size, 1, none⟩ = some (.int .i64 b.t) := HKB.out w1 (In.refl _) 1
  obtain ⟨w9, n9, rfl⟩ : ∃ (w9 : World) (n9 : Nat), w1 = w9.drewN n9 := ⟨w1, 0, rfl⟩
  replace q0 : w9.cell? ⟨W.heap.size, 0, none⟩ = some (.int .i64 b.i) := q0
  replace q1 : w9.cell? ⟨W.heap.size, 1, none⟩ = some (.int .i64 b.t) := q1
  replace c0 : w9.cell? ⟨p, 0, none⟩ = some (.int .i64 m.i) := c0
  replace c6 : w9.cell? ⟨p, 6, none⟩ = some (.bool true) := c6
  replace c7 : w9.cell? ⟨p, 7, none⟩ = some (.slice A m.es.length c) := c7
  by_cases hle : b.i ≤ m.i
  · have hd : decide (b.i ≤ m.i) = true := decide_eq_true hle
    have hq := Lib.hid (show installOf m b = (m, false) by unfold installOf; rw [if_pos hle])
    clear hle
    go_quiet ((go_at_call 52; exact quiet_same (there_yes c6)))
    go_wp2_with fail
    go_ret
    rw [hq.out]
    have hin9 : In (w9.drewN n9) (w9.drewN (n9 + nq)) := by rw [← World.drewN_drewN]; exact In.drewN (In.refl _) _
    refine ⟨rfl, ?_, ?_, ?_⟩
    all_goals try rw [World.drewN_drewN]
    · exact (HL.out.in_ hin9).mono (fun k hk => .inl hk) HP.out
    · exact (hin0.trans hin9).kept _
    · exact Below.mono (hin0.trans hin9).out (Nat.zero_le _)
  · have hd : decide (b.i ≤ m.i) = false := decide_eq_false hle
    obtain ⟨many, hm, hinst, hway⟩ := installOf_many (b := b) (show m.i < b.i by omega)
    have HIN := Lib.hid hinst
    have HWAY := Lib.hid hway
    clear hinst hway hle
    go_quiet ((go_at_call 52; exact quiet_same (there_yes c6)))
    have hin9 := In.drewN (In.refl (w9.drewN n9)) nq
    go_upto_region 3 with (fail)
    have hin09 := hin0.trans hin9
    have HL9 := Lib.hid (HL.out.in_ hin9)
    have HS9 := Lib.hid (HS.out.in_ hin9)
    have HC9 := Lib.hid (Kd.C_below HC.out hin9.out)
    have HKB9 := Lib.hid (fun w' (h : In ((w9.drewN n9).drewN nq) w') => HKB.out w' (hin9.trans h))
    have r0 : ((w9.drewN n9).drewN nq).cell? ⟨W.heap.size, 0, none⟩ = some (.int .i64 b.i) := q0
    have r1 : ((w9.drewN n9).drewN nq).cell? ⟨W.heap.size, 1, none⟩ = some (.int .i64 b.t) := q1
    have r7 : ((w9.drewN n9).drewN nq).cell? ⟨p, 7, none⟩ = some (.slice A m.es.length c) := c7
    clear q0 q1 c0 c6 c7 HKB HL HS HC hin9
    generalize (w9.drewN n9).drewN nq = w2 at *
    go_wp2_with fail
    have hpl9 := Lib.hid (place_yes b.i HS9.out HF.out)
    have hcase : ∃ pv pb, placeOf m.i m.es.length b.i = (pv, pb) ∧ ((pb = false ∧ many = m.es.length) ∨ ∃ (j : Nat) (x : Ent), pb = true ∧ pv = (j : Int) ∧ j < m.es.length ∧ m.es[j]? = some x ∧ ((x.t = b.t ∧ many = j + 1) ∨ (x.t ≠ b.t ∧ many = m.es.length))) := by
      rcases HWAY.out with ⟨h1, h2⟩ | ⟨j, x, h1, hx, h2⟩
      · unfold LM.last at h1
        exact ⟨0, false, by unfold placeOf; rw [if_pos (Or.inr h1)], .inl ⟨rfl, h2⟩⟩
      · have hjl := (List.getElem?_eq_some_iff.1 hx).1
        exact ⟨(j : Int), true, by unfold placeOf; rw [if_neg (by omega)]; congr 1; omega, .inr ⟨j, x, rfl, rfl, hjl, hx, h2⟩⟩
    obtain ⟨pv, pb, hpo, hcase⟩ := hcase
    have hpl10 := hpl9.out
    rw [hpo] at hpl10
    have HPL := Lib.hid hpl10
    have HCASE := Lib.hid hcase
    clear hpl9 hpl10 hpo hcase HWAY
    (with_reducible refine HPL.out.mono ?_)
    rintro e w3 ⟨rfl, ⟨n3, rfl⟩⟩
    have hin3 := In.drewN (In.refl w2) n3
    go_upto_region 5 with (fail)
    rcases HCASE.out with ⟨rfl, hmany⟩ | ⟨j, x, rfl, rfl, hjl, hx, hway⟩
    have HMI := Lib.hid (show ((m.es.length : Nat) : Int) = (many : Int) by rw [hmany])
    clear hmany
    rotate_left
    obtain ⟨ad, y, A2, e2, A3, e3, A4, e4, A5, e5, A6, e6, rfl, hy, k0, _⟩ := entK_at HC9.out hjl
    obtain rfl : x = y := by rw [hx] at hy; exact Option.some.inj hy
    clear hx hy
    rcases hway with ⟨ht, hmany⟩ | ⟨ht, hmany⟩
    have hd5 : (x.t == b.t) = true := by rw [beq_iff_eq]; exact ht
    have HMI := Lib.hid (show (j : Int) + 1 = (many : Int) by rw [hmany]; rfl)
    clear ht hmany
    rotate_left
    have hd5 : (x.t == b.t) = false := by rw [beq_eq_false_iff_ne]; exact ht
    have HMI := Lib.hid (show ((m.es.length : Nat) : Int) = (many : Int) by rw [hmany])
    clear ht hmany
    rotate_left
    rotate_left
    all_goals
      go_quiet (fail)
      have hinq : In w2 (w2.drewN (n3 + nq)) := In.drewN (In.refl _) _
      clear r0 r1 r7
      try clear k0 hd5
      clear HCASE
      have hin02 := hin09.trans hinq
      have HL3 := Lib.hid (HL9.out.in_ hinq)
      have HC3 : Hid (CellsAt (w2.drewN (n3 + nq)) ⟨W.heap.size, 0, none⟩ [.int .i64 b.i, .int .i64 b.t, .slice D0 b.g.v.length d0, .slice D1 b.g.o.length d1, .slice D2 b.g.l.length d2, .slice D3 b.g.w.length d3]) := Lib.hid (fun i v hv => by rw [add_plain, HKB9.out _ hinq i]; exact hv)
      have HKC := Lib.hid (basK.K_below hin02.out HB.out)
      clear HKB9 hinq HC9 HS9 HL9
      go_wp2_with (refine wpList_load_any rfl 27 (.tmp 3) rfl ⟨W.heap.size, 0, none⟩ rfl _ _ HC3.out Try.underlying27 rfl size27 ?_)
      refine (ownBase_any HKC.out hg).mono ?_
      rintro e w4 ⟨ds, rfl, hm4, hin4⟩
      have hF4 := fresh_F (basK.M_lower hin02.size hm4)
      obtain ⟨v0, v1, v2, v3, rfl, m0, m1, m2, m3⟩ := basK_openM hm4
      obtain ⟨B0, b0, rfl⟩ := Kd.R_slice m0
      obtain ⟨B1, b1, rfl⟩ := Kd.R_slice m1
      obtain ⟨B2, b2, rfl⟩ := Kd.R_slice m2
      obtain ⟨B3, b3, rfl⟩ := Kd.R_slice m3
      have HF4 := Lib.hid hF4
      clear m0 m1 m2 m3 hm4 hF4
      have hin04 := hin02.trans hin4
      go_wp2_with fail
      rw [HMI.out]
      refine (stand_any many (HL3.out.in_ hin4) HF4.out (fun h => by omega) hm f2).mono ?_
      rintro e wz ⟨rfl, hlz, hkz, hbz⟩
      have hkp : Kept W wz (fun k => k = p ∨ ok k) := (hin04.kept _).then_ hkz (fun k hk => .inl (.inl hk))
      have hbz0 : Below 0 W wz := (Below.mono hin04.out (Nat.zero_le _)).trans hbz
      have hlg : IsLog wz p (fun k => ok k ∨ W.heap.size ≤ k) ⟨b.i, b.t, b.g, m.es.drop many⟩ := hlz.mono (fun k hk => hk.elim .inl (fun h => h.elim .inr (fun h => .inr (Nat.le_trans hin04.size h)))) HP.out
      have HKP := Lib.hid hkp
      have HB0 := Lib.hid hbz0
      have HLG := Lib.hid hlg
      clear hkp hbz0 hlg hlz hkz hbz
      go_wp2_with fail
      go_ret
      rw [HIN.out]
      exact ⟨rfl, HLG.out, HKP.out, HB0.out⟩
end Go.Proofs.Ytgpnfgjmdehfdaa
