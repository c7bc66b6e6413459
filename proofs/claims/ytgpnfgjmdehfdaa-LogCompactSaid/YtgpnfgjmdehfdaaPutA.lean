/- Entries put behind a log's. -/
import Derived.Test.YtgpnfgjmdehfdaaOwnC
namespace Go.Proofs.Ytgpnfgjmdehfdaa
set_option linter.unusedVariables false
set_option linter.unusedSimpArgs false
open Go.RowKit Go.Proofs.YtgpnfgjmdehfdaaW.PrintWords

theorem IsLog.lt {W : World} {p : Nat} {ok : Nat → Prop} {m : LM} (h : IsLog W p ok m) : p < W.heap.size := by
  obtain ⟨A0, c0, A1, c1, A2, c2, A3, c3, A, c, hb, _⟩ := h
  exact blk_lt hb
set_option maxRecDepth 100000 in
set_option maxHeartbeats 1600000 in
theorem put_yes {p : Nat} {ok : Nat → Prop} {m : LM} {A : Option Addr} {c : Nat} {xs : List Ent} {W : World} (hL : IsLog W p ok m) (hA : entK.C W A xs.length xs) (hs : entsSmall xs) (hf : Fair m.i (m.es.length + xs.length)) :
    Calls Try.prog 17 #[.pointer (some ⟨p, 0, none⟩), .slice A xs.length c] W fun e w' => e = .returned (.int .i64 (m.i + (m.es.length + xs.length : Nat))) ∧ IsLog w' p (fun k => ok k ∨ W.heap.size ≤ k) ⟨m.i, m.t, m.g, m.es ++ xs⟩ ∧ Kept W w' (fun k => k = p ∨ ok k) ∧ Below 0 W w' := by
  have hpl := hL.lt
  obtain ⟨A0, c0, A1, c1, A2, c2, A3, c3, A4, c4, hb, hg, he, hp⟩ := hL
  have HB := Lib.hid hb
  have HE := Lib.hid he
  have HG := Lib.hid hg
  have HA := Lib.hid hA
  have k6 := blk_cell hb 6
  have hne : some p ≠ (Value.slice A4 m.es.length c4).ownBlock := Kd.N_away he (fun k hk e => hp (e ▸ hk))
  have hlt := Kd.N_lt he
  have HN := Lib.hid (And.intro hne hlt)
  have k7 := In.cells (show W.cell? ⟨p, 7, none⟩ = some (.slice A4 m.es.length c4) from blk_cell hb 7)
  have HF := Lib.hid hf
  have hfl : (m.es.length + xs.length) * 136 ≤ 140737488355328 := by have := hf.2.2; omega
  have HP := Lib.hid hp
  have HO := Lib.hid he.1
  clear hb hg he hA hne hlt hf hp
  go_enter Try.func17, Try.ntmps17
  go_wp2_with fail
  refine (there_yes k6).mono ?_
  rintro e w1 ⟨rfl, rfl⟩
  clear k6
  have h0 := In.refl W
  have h01 := In.drew (In.refl W)
  go_upto_region 2 with (fail)
  go_region_law ((first
    | (refine Kd.N_append_rows_step entK (w0 := _) 0 rfl (.tmp 11) (.tmp 13) 22 45 _ 136 rfl Try.underlying22 info45 rfl (by decide) (by decide) (.slice A4 m.es.length c4) m.es xs _ xs.length _ (fun k => ok k ∨ W.heap.size ≤ k) (fun k => W.heap.size ≤ k) rfl rfl (Kd.N_mono (Kd.N_below HE.out (show In W _ by assumption).out) (fun k hk => .inl hk)) hFF (fun k hk => ⟨.inr hk, fun he => by have := HN.out.2 k he.symm; omega⟩) (fun k hk => .inr (Nat.le_trans (show In W _ by assumption).size hk)) (Below.refl 0 _) (Nat.zero_le _) hfl ?_; intro v1 w3 hn3 hb3 hg3 hat3; obtain ⟨A5, c5, rfl⟩ := Kd.N_slice hn3; have hp3 := blk_grown (blk_below HB.out (show In W _ by assumption).out) hg3 HN.out.1; have s7 := blk_cell hp3 7; have f7 := blk_frozen hp3 7)
    | (go_simp; go_at_call 55; refine Calls.mono (own_any (xs := xs) (Kd.C_below HA.out (show In W _ by assumption).out) hs) ?_; rintro e wa ⟨r0, rfl, hr0, hb0⟩; have hi0 := In.trans (show In W _ by assumption) hb0; obtain ⟨B0, d0, rfl⟩ := Kd.R_slice hr0; have hFF := Kd.R_F (Kd.R_mono (ok' := fun k => W.heap.size ≤ k) (Kd.R_bound hr0) (fun k hk => hk.2.1)))))
  all_goals
    have hin : In W wa := by assumption
    have hput := blk_put hp3 7 (.slice A5 (m.es ++ xs).length c5) rfl
    have hpn : ∀ k, (ok k ∨ W.heap.size ≤ k) → k ≠ p := fun k hk he => by
      subst he
      rcases hk with hk | hk
      · exact HP.out hk
      · omega
    have hnf := Kd.N_far (p := ⟨p, 7, none⟩) hn3 hpn (.slice A5 (m.es ++ xs).length c5)
    have hgf : Kd.FK cfgK (w3.setCell ⟨p, 7, none⟩ (.slice A5 (m.es ++ xs).length c5)) (fun k => (ok k ∨ W.heap.size ≤ k) ∧ some k ≠ (Value.slice A5 (m.es ++ xs).length c5).ownBlock) m.g [.slice A0 m.g.v.length c0, .slice A1 m.g.o.length c1, .slice A2 m.g.l.length c2, .slice A3 m.g.w.length c3] := by
      have h1 := Kd.FK_bound HG.out
      refine Kd.FK_mono (Kd.FK_step h1 (fun k hk hlt => ?_)) (fun k hk => ⟨.inl hk.1.1, ?_⟩)
      · rw [Below.heap_setCell _ _ _ k (hpn k (.inl hk.1.1)), hg3.block k (Nat.lt_of_lt_of_le hlt hin.size) hk.1.2]
        exact hin.out.block k hlt
      · rcases hat3 with ha | ⟨b, ha, hle⟩
        · rw [ha]; exact hk.1.2
        · rw [ha]
          intro hh
          injection hh with hh
          have := hin.size
          have := hk.2
          omega
    have hkept : Kept W (w3.setCell ⟨p, 7, none⟩ (.slice A5 (m.es ++ xs).length c5)) (fun k => k = p ∨ ok k) :=
      Kept.setCell (p := ⟨p, 7, none⟩) (Kept.of_grown hg3 (hin.kept _) (fun k hk => .inl (.inr (HO.out k hk)))) (.inl (.inl rfl)) _
    have hlog : IsLog (w3.setCell ⟨p, 7, none⟩ (.slice A5 (m.es ++ xs).length c5)) p (fun k => ok k ∨ W.heap.size ≤ k) ⟨m.i, m.t, m.g, m.es ++ xs⟩ := ⟨A0, c0, A1, c1, A2, c2, A3, c3, A5, c5, hput, hgf, hnf, fun h => hpn p h rfl⟩
    have hsee : Sees (w3.setCell ⟨p, 7, none⟩ (.slice A5 (m.es ++ xs).length c5)) p m.i m.t A5 (m.es.length + xs.length) c5 := ⟨blk_cell hput 0, blk_cell hput 1, blk_cell hput 6, by rw [← List.length_append]; exact blk_cell hput 7⟩
    have hz0 : Below 0 W (w3.setCell ⟨p, 7, none⟩ (.slice A5 (m.es ++ xs).length c5)) := ((Below.mono hin.out (Nat.zero_le _)).trans hb3).setCell (p := ⟨p, 7, none⟩) (Nat.zero_le _) _
    rw [List.length_append] at hkept hlog hsee hz0
    have HK := Lib.hid hkept
    have HL := Lib.hid hlog
    have HS := Lib.hid hsee
    clear hput hnf hgf hkept hlog hsee hn3 hg3 hp3 s7 f7 hat3
    generalize w3.setCell ⟨p, 7, none⟩ (.slice A5 (m.es.length + xs.length) c5) = wf at *
    go_wp2_with fail
    refine (last_yes HS.out HF.out).mono ?_
    rintro e wz ⟨rfl, ⟨q, rfl⟩⟩
    go_wp2_with fail
    go_ret
    exact ⟨rfl, HL.out.in_ (In.drewN (In.refl _) _), HK.out.drewN _, pw_below_drewN hz0 _⟩
end Go.Proofs.Ytgpnfgjmdehfdaa
