/- A log stands on another base, the entries up to that going. -/
import Derived.Test.YtgpnfgjmdehfdaaLogD
namespace Go.Proofs.Ytgpnfgjmdehfdaa
set_option linter.unusedVariables false
set_option linter.unusedSimpArgs false
open Go.RowKit Go.Proofs.YtgpnfgjmdehfdaaW.PrintWords

theorem bas_cfgF {W : World} {ok : Nat → Prop} {b : Bas} {v0 v1 v2 v3 : Value} (h : Kd.FK basK W ok b [.int .i64 b.i, .int .i64 b.t, v0, v1, v2, v3]) : Kd.FK cfgK W ok b.g [v0, v1, v2, v3] := fun W' hW => by
  obtain ⟨_, _, _, _, _, _, _, _, hh, l0, g0, l1, g1, l2, g2, l3, g3⟩ := basK_open (h W' hW)
  injection hh with h1 hh
  injection hh with h2 hh
  injection hh with h3 hh
  injection hh with h4 hh
  injection hh with h5 hh
  injection hh with h6 hh
  subst h3 h4 h5 h6
  exact cfgK_mk (x := b.g) l0 g0 l1 g1 l2 g2 l3 g3
/-- The block at p has turned, and no other. -/
structure Turned (wa wf : World) (p : Nat) (cs : Array Value) (t : TypeId) : Prop where
  blk : wf.heap[p]? = some (.cells cs t (0, 0))
  far : ∀ i, i ≠ p → wf.heap[i]? = wa.heap[i]?
  size : wa.heap.size ≤ wf.heap.size
  zero : Below 0 wa wf
theorem Turned.start {wa : World} {p : Nat} {cs : Array Value} {t : TypeId} (h : wa.heap[p]? = some (.cells cs t (0, 0))) : Turned wa wa p cs t := ⟨h, fun _ _ => rfl, Nat.le_refl _, Below.refl 0 _⟩
theorem Turned.put {wa wf : World} {p : Nat} {cs cs' : Array Value} {t : TypeId} (h : Turned wa wf p cs t) (i : Nat) (v : Value) (e : cs.setIfInBounds i v = cs') : Turned wa (wf.setCell ⟨p, i, none⟩ v) p cs' t :=
  ⟨blk_put h.blk i v e, fun k hk => (Below.heap_setCell _ _ _ k hk).trans (h.far k hk), by simp only [World.setCell, Array.size_modify]; exact h.size, h.zero.setCell (p := ⟨p, i, none⟩) (Nat.zero_le _) _⟩
theorem turned_a {wa : World} {p : Nat} {t : TypeId} {x0 x1 x2 x3 x4 x5 x6 x7 : Value} (h : wa.heap[p]? = some (.cells #[x0, x1, x2, x3, x4, x5, x6, x7] t (0, 0))) (y0 y1 y2 y3 y4 y5 y7 : Value) :
    Turned wa (((((((wa.setCell ⟨p, 7, none⟩ y7).setCell ⟨p, 0, none⟩ y0).setCell ⟨p, 1, none⟩ y1).setCell ⟨p, 2, none⟩ y2).setCell ⟨p, 3, none⟩ y3).setCell ⟨p, 4, none⟩ y4).setCell ⟨p, 5, none⟩ y5) p #[y0, y1, y2, y3, y4, y5, x6, y7] t :=
  (((((((Turned.start h).put 7 y7 (cs' := #[x0, x1, x2, x3, x4, x5, x6, y7]) rfl).put 0 y0 (cs' := #[y0, x1, x2, x3, x4, x5, x6, y7]) rfl).put 1 y1 (cs' := #[y0, y1, x2, x3, x4, x5, x6, y7]) rfl).put 2 y2 (cs' := #[y0, y1, y2, x3, x4, x5, x6, y7]) rfl).put 3 y3 (cs' := #[y0, y1, y2, y3, x4, x5, x6, y7]) rfl).put 4 y4 (cs' := #[y0, y1, y2, y3, y4, x5, x6, y7]) rfl).put 5 y5 (cs' := #[y0, y1, y2, y3, y4, y5, x6, y7]) rfl
theorem turned_b {wa : World} {p : Nat} {t : TypeId} {x0 x1 x2 x3 x4 x5 x6 x7 : Value} (h : wa.heap[p]? = some (.cells #[x0, x1, x2, x3, x4, x5, x6, x7] t (0, 0))) (y0 y1 y2 y3 y4 y5 y7 : Value) :
    Turned wa (((((((wa.setCell ⟨p, 0, none⟩ y0).setCell ⟨p, 1, none⟩ y1).setCell ⟨p, 2, none⟩ y2).setCell ⟨p, 3, none⟩ y3).setCell ⟨p, 4, none⟩ y4).setCell ⟨p, 5, none⟩ y5).setCell ⟨p, 7, none⟩ y7) p #[y0, y1, y2, y3, y4, y5, x6, y7] t :=
  (((((((Turned.start h).put 0 y0 (cs' := #[y0, x1, x2, x3, x4, x5, x6, x7]) rfl).put 1 y1 (cs' := #[y0, y1, x2, x3, x4, x5, x6, x7]) rfl).put 2 y2 (cs' := #[y0, y1, y2, x3, x4, x5, x6, x7]) rfl).put 3 y3 (cs' := #[y0, y1, y2, y3, x4, x5, x6, x7]) rfl).put 4 y4 (cs' := #[y0, y1, y2, y3, y4, x5, x6, x7]) rfl).put 5 y5 (cs' := #[y0, y1, y2, y3, y4, y5, x6, x7]) rfl).put 7 y7 (cs' := #[y0, y1, y2, y3, y4, y5, x6, y7]) rfl
theorem stand_fin {W wq wa wf : World} {p : Nat} {ok okb : Nat → Prop} {b : Bas} {es : List Ent} {n c5 d0 d1 d2 d3 : Nat} {D0 D1 D2 D3 A5 : Option Addr}
    (hT : Turned wa wf p #[.int .i64 b.i, .int .i64 b.t, .slice D0 b.g.v.length d0, .slice D1 b.g.o.length d1, .slice D2 b.g.l.length d2, .slice D3 b.g.w.length d3, .bool true, .slice A5 n c5] 37) (hn : es.length = n)
    (hq : W.heap.size ≤ wq.heap.size) (hinA : In W wa) (hpo : ¬ (ok p ∨ okb p ∨ W.heap.size ≤ p))
    (hg : Kd.FK cfgK W (fun k => okb k ∧ k < W.heap.size) b.g [.slice D0 b.g.v.length d0, .slice D1 b.g.o.length d1, .slice D2 b.g.l.length d2, .slice D3 b.g.w.length d3])
    (hn0 : Kd.N entK 45 wa 0 (fun k => ok k ∧ k < W.heap.size ∨ wq.heap.size ≤ k) (.slice A5 n c5) es) (hown0 : ∀ k, (Value.slice A5 n c5).ownBlock = some k → wq.heap.size ≤ k) :
    IsLog wf p (fun k => ok k ∨ okb k ∨ W.heap.size ≤ k) ⟨b.i, b.t, b.g, es⟩ ∧ Kept W wf (fun k => k = p) ∧ Below 0 W wf := by
  have hown : ∀ k, (Value.slice A5 n c5).ownBlock = some k → W.heap.size ≤ k := fun k hk => Nat.le_trans hq (hown0 k hk)
  have hpn : ∀ k, (ok k ∨ okb k ∨ W.heap.size ≤ k) → k ≠ p := fun k hk he => hpo (he ▸ hk)
  refine ⟨IsLog.mk (m := ⟨b.i, b.t, b.g, es⟩) hn hT.blk ?_ ?_ hpo, ⟨Nat.le_trans hinA.size hT.size, fun i hi hne => (hT.far i hne).trans (hinA.out.block i hi)⟩, (Below.mono hinA.out (Nat.zero_le _)).trans hT.zero⟩
  · exact Kd.FK_mono (Kd.FK_step hg (fun k hk hlt => (hT.far k (hpn k (.inr (.inl hk.1)))).trans (hinA.out.block k hlt))) (fun k hk => ⟨.inr (.inl hk.1), fun he => by have := hown k he.symm; have := hk.2; omega⟩)
  · exact Kd.N_step (Kd.N_mono (ok' := fun k => ok k ∨ okb k ∨ W.heap.size ≤ k) hn0 (fun k hk => hk.elim (fun h => .inl h.1) (fun h => .inr (.inr (Nat.le_trans hq h))))) (fun k hk _ => hT.far k (hpn k hk))
set_option maxRecDepth 100000 in
set_option maxHeartbeats 1600000 in
theorem stand_any {p : Nat} {ok okb : Nat → Prop} {m : LM} {W : World} {b : Bas} {cs : List Value} (many : Nat) (hL : IsLog W p ok m) (hb : Kd.FK basK W okb b cs) (hbp : ¬ okb p) (hm : many ≤ m.es.length) (hl : m.es.length ≤ 1000000000) :
    Calls Try.prog 58 #[.pointer (some ⟨p, 0, none⟩), .agg cs.toArray, .int .i64 many] W fun e w' => e = .returned (.bool true) ∧ IsLog w' p (fun k => ok k ∨ okb k ∨ W.heap.size ≤ k) ⟨b.i, b.t, b.g, m.es.drop many⟩ ∧ Kept W w' (fun k => k = p) ∧ Below 0 W w' := by
  have hpl := hL.lt
  obtain ⟨A0, c0, A1, c1, A2, c2, A3, c3, A4, c4, hB, hG, hE, hp⟩ := hL
  obtain ⟨D0, d0, D1, d1, D2, d2, D3, d3, rfl, _⟩ := basK_open (Kd.FK_now hb)
  have hin0 := In.alloc (In.refl W) (.cells #[.int .i64 b.i, .int .i64 b.t, .slice D0 b.g.v.length d0, .slice D1 b.g.o.length d1, .slice D2 b.g.l.length d2, .slice D3 b.g.w.length d3] 27)
  have kb := box_cells W [.int .i64 b.i, .int .i64 b.t, .slice D0 b.g.v.length d0, .slice D1 b.g.o.length d1, .slice D2 b.g.l.length d2, .slice D3 b.g.w.length d3] 27
  have HBG := Lib.hid (Kd.FK_bound (bas_cfgF hb))
  have HBK := Lib.hid (blk_below hB hin0.out)
  have HNF := Lib.hid (Kd.F_below (Kd.F_bound (Kd.N_F hE)) hin0.out)
  have hle := (Kd.N_reads' hE).2.1
  have hpo : ¬ (ok p ∨ okb p ∨ W.heap.size ≤ p) := fun h => h.elim hp (fun h => h.elim hbp (fun h => by omega))
  have HPO := Lib.hid hpo
  have HBP := Lib.hid hbp
  obtain ⟨i45, hi45, hi45s⟩ : ∃ i, Try.prog.info? 45 = some i ∧ i.size = 7 := by
    obtain ⟨i45, hi45, _, hz, _⟩ := info_parts info45
    exact ⟨i45, hi45, hz⟩
  have hcd := cut_from (P := Try.prog) 22 45 .i64 Try.underlying22 hi45 7 hi45s A4 m.es.length c4 (many : Int) (by omega) (by omega)
  rw [Int.toNat_natCast] at hcd
  have hFD := Kd.F_cut (c := c4) HNF.out hm hle
  rw [entK_sz, List.length_drop] at hFD
  generalize (if c4 = many then A4 else A4.map (·.add (many * 7))) = AD at *
  have HFD := Lib.hid hFD
  clear hB hG hE hb hFD hp hbp hpo HNF hi45 hi45s
  go_enter Try.func58, Try.ntmps58
  go_upto_region 1 with (fail)
  generalize W.alloc (.cells #[.int .i64 b.i, .int .i64 b.t, .slice D0 b.g.v.length d0, .slice D1 b.g.o.length d1, .slice D2 b.g.l.length d2, .slice D3 b.g.w.length d3] 27) = wo at *
  have q0 : ∀ w', In wo w' → w'.cell? ⟨W.heap.size, 0, none⟩ = some (.int .i64 b.i) := fun w' h => kb w' h 0
  have q1 : ∀ w', In wo w' → w'.cell? ⟨W.heap.size, 1, none⟩ = some (.int .i64 b.t) := fun w' h => kb w' h 1
  have q2 : ∀ w', In wo w' → w'.cell? ⟨W.heap.size, 2, none⟩ = some (.slice D0 b.g.v.length d0) := fun w' h => kb w' h 2
  have q3 : ∀ w', In wo w' → w'.cell? ⟨W.heap.size, 3, none⟩ = some (.slice D1 b.g.o.length d1) := fun w' h => kb w' h 3
  have q4 : ∀ w', In wo w' → w'.cell? ⟨W.heap.size, 4, none⟩ = some (.slice D2 b.g.l.length d2) := fun w' h => kb w' h 4
  have q5 : ∀ w', In wo w' → w'.cell? ⟨W.heap.size, 5, none⟩ = some (.slice D3 b.g.w.length d3) := fun w' h => kb w' h 5
  have b0 := In.cells (show wo.cell? ⟨p, 0, none⟩ = some (.int .i64 m.i) from blk_cell HBK.out 0)
  have b1 := In.cells (show wo.cell? ⟨p, 1, none⟩ = some (.int .i64 m.t) from blk_cell HBK.out 1)
  have b2 := In.cells (show wo.cell? ⟨p, 2, none⟩ = some (.slice A0 m.g.v.length c0) from blk_cell HBK.out 2)
  have b3 := In.cells (show wo.cell? ⟨p, 3, none⟩ = some (.slice A1 m.g.o.length c1) from blk_cell HBK.out 3)
  have b4 := In.cells (show wo.cell? ⟨p, 4, none⟩ = some (.slice A2 m.g.l.length c2) from blk_cell HBK.out 4)
  have b5 := In.cells (show wo.cell? ⟨p, 5, none⟩ = some (.slice A3 m.g.w.length c3) from blk_cell HBK.out 5)
  have b7 := In.cells (show wo.cell? ⟨p, 7, none⟩ = some (.slice A4 m.es.length c4) from blk_cell HBK.out 7)
  have hfz : ∀ w', In wo w' → ∀ i, w'.frozen? ⟨p, i, none⟩ = false := fun w' h i => blk_frozen (blk_below HBK.out h.out) i
  have y0 : ∀ w', In wo w' → w'.frozen? ⟨p, 0, none⟩ = false := fun w' h => hfz w' h 0
  have y1 : ∀ w', In wo w' → w'.frozen? ⟨p, 1, none⟩ = false := fun w' h => hfz w' h 1
  have y2 : ∀ w', In wo w' → w'.frozen? ⟨p, 2, none⟩ = false := fun w' h => hfz w' h 2
  have y3 : ∀ w', In wo w' → w'.frozen? ⟨p, 3, none⟩ = false := fun w' h => hfz w' h 3
  have y4 : ∀ w', In wo w' → w'.frozen? ⟨p, 4, none⟩ = false := fun w' h => hfz w' h 4
  have y5 : ∀ w', In wo w' → w'.frozen? ⟨p, 5, none⟩ = false := fun w' h => hfz w' h 5
  have y7 : ∀ w', In wo w' → w'.frozen? ⟨p, 7, none⟩ = false := fun w' h => hfz w' h 7
  have h00 := In.refl wo
  have h01 := In.drew (In.refl wo)
  clear hfz kb
  have hz1 : (0 : Int) ≤ (many : Int) := Int.natCast_nonneg _
  have hz2 : (many : Int) ≤ (m.es.length : Int) := by omega
  go_region_law ((first
    | (go_simp; go_at_call 53; refine Calls.mono (cloneEnts_any (Kd.F_below HFD.out (show In wo _ by assumption).out) (fun k hk => Nat.lt_of_lt_of_le hk.2 (hin0.trans (show In wo _ by assumption)).size) (by omega)) ?_; rintro e wa ⟨v0, rfl, hn0, hown0, hb0⟩; have hi0 := In.trans (show In wo _ by assumption) hb0; obtain ⟨A5, c5, rfl⟩ := Kd.N_slice hn0)))
  all_goals
    have hdl : (m.es.drop many).length = m.es.length - many := List.length_drop
    rw [hdl] at hn0 hown0
    have hbb := blk_below HBK.out hi0.out
    have hfin : ∀ wf, Turned wa wf p #[.int .i64 b.i, .int .i64 b.t, .slice D0 b.g.v.length d0, .slice D1 b.g.o.length d1, .slice D2 b.g.l.length d2, .slice D3 b.g.w.length d3, .bool true, .slice A5 (m.es.length - many) c5] 37 → _ := fun wf hT =>
      stand_fin hT hdl (hin0.trans (by assumption)).size (hin0.trans hi0) HPO.out HBG.out hn0 hown0
    have hTa := turned_a hbb (.int .i64 b.i) (.int .i64 b.t) (.slice D0 b.g.v.length d0) (.slice D1 b.g.o.length d1) (.slice D2 b.g.l.length d2) (.slice D3 b.g.w.length d3) (.slice A5 (m.es.length - many) c5)
    have hfa := hfin _ hTa
    clear hn0 hown0 hbb hfin hTa
    generalize World.setCell _ _ _ = wf at hfa ⊢
    have HFIN := Lib.hid hfa
    clear hfa
    go_wp2_with fail
    go_ret
    exact ⟨rfl, HFIN.out.1, HFIN.out.2.1, HFIN.out.2.2⟩
end Go.Proofs.Ytgpnfgjmdehfdaa
