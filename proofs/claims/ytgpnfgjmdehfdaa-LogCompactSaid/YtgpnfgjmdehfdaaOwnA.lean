/- A configuration in memory of its own: package log's. -/
import Derived.Test.YtgpnfgjmdehfdaaCloneA
namespace Go.Proofs.Ytgpnfgjmdehfdaa
set_option linter.unusedVariables false
set_option linter.unusedSimpArgs false
open Go.RowKit Go.Proofs.YtgpnfgjmdehfdaaW.PrintWords

section
variable {P : Program} {ops : Array Oper} {o : Oper} {a : Act} {Q : Exit → Act → World → Prop} {Kc : Act → World → Prop}
/-- A store over a whole block, in a region that draws. -/
theorem step_store_row {w : World} (hw : Region.wanted o (yielded ops a.tmps) = true) (ty : TypeId) (x y : Operand) (ho : o.op = .store ty x y)
    (g : Nat) (cells : Array Value) (hx : a.eval x = .pointer (some ⟨g, 0, none⟩)) (hy : a.eval y = .agg cells)
    (t : TypeId) (old : Array Value) (hg : w.heap[g]? = some (.cells old t (0, 0))) (hi : (P.info? ty).map (·.size) = some cells.size)
    (hold : old.size = cells.size) (h1 : cells.all (·.oneCell') = true)
    (h : Kc (a.put o.dst undef) (w.setRow g cells)) :
    if Region.wanted o (yielded ops a.tmps) = true then Oper.wp P o a w Kc Q else Kc (a.put o.dst undef) w := by
  rw [if_pos hw]
  exact wp_store_row ty x y ho g cells hx hy t old hg hi hold h1 h
end
def Holds (B : World → Prop) (w : World) : Prop := B w
def oldAt (w : World) (g : Nat) : Array Value := match w.heap[g]? with
  | some (.cells c _ _) => c
  | _ => #[]
/-- Two blocks at hand: one that is read, one of so many cells that is written. -/
def Boxed (w : World) (g : Nat) (cs : List Value) (g2 : Nat) (t : TypeId) (n : Nat) (w' : World) : Prop :=
  In w w' ∧ (∀ i, w'.cell? ⟨g, i, none⟩ = cs[i]?) ∧ g < w'.heap.size ∧ w'.heap[g2]? = some (.cells (oldAt w' g2) t (0, 0)) ∧ (oldAt w' g2).size = n
section
variable {w w1 w2 : World} {g g2 n : Nat} {cs : List Value} {t : TypeId}
theorem Boxed.next (h : Boxed w g cs g2 t n w1) (hb : In w1 w2) : Boxed w g cs g2 t n w2 := by
  obtain ⟨h1, h2, hg, h3, h4⟩ := h
  have h5 : w2.heap[g2]? = w1.heap[g2]? := hb.block g2 (Array.getElem?_eq_some_iff.1 h3).1
  have h6 : oldAt w2 g2 = oldAt w1 g2 := by unfold oldAt; rw [h5]
  exact ⟨h1.trans hb, fun i => by rw [(bcell hb).1 g i hg]; exact h2 i, Nat.lt_of_lt_of_le hg hb.size, by rw [h5, h6]; exact h3, by rw [h6]; exact h4⟩
theorem Boxed.put (h : Boxed w g cs g2 t n w1) (hne : g ≠ g2) (hg2 : w.heap.size ≤ g2) (c : Array Value) (hc : c.size = n) : Boxed w g cs g2 t n (w1.setRow g2 c) := by
  obtain ⟨h1, h2, hg, h3, h4⟩ := h
  have h5 := setRow_heap w1 g2 _ c _ _ h3
  have h6 : oldAt (w1.setRow g2 c) g2 = c := by unfold oldAt; rw [h5]
  refine ⟨?_, fun i => by rw [cell_setRow_other _ _ _ _ (by exact hne)]; exact h2 i, by rw [setRow_size]; exact hg, by rw [h6]; exact h5, by rw [h6]; exact hc⟩
  exact h1.out.trans ⟨rfl, rfl, rfl, by simp, fun i hi => setRow_other _ _ _ _ (by omega)⟩
theorem Boxed.set (h : Boxed w g cs g2 t n w1) (hne : g ≠ g2) (hg2 : w.heap.size ≤ g2) (i : Nat) (v : Value) : Boxed w g cs g2 t n (w1.setCell ⟨g2, i, none⟩ v) := by
  rw [setCell_eq_setRow w1 g2 i _ _ _ v h.2.2.2.1]
  exact h.put hne hg2 _ (by rw [Array.size_setIfInBounds]; exact h.2.2.2.2)
theorem Boxed.there (h : Boxed w g cs g2 t n w1) {i : Nat} (hi : i < n) : w1.cell? ⟨g2, i, none⟩ = some ((oldAt w1 g2).getD i undef) ∧ w1.frozen? ⟨g2, i, none⟩ = false := by
  obtain ⟨_, _, _, h3, h4⟩ := h
  refine ⟨?_, blk_frozen h3 i⟩
  rw [blk_cell h3 i, Array.getElem?_eq_getElem (by omega), Array.getD_eq_getD_getElem?, Array.getElem?_eq_getElem (by omega), Option.getD_some]
theorem Boxed.four (h : Boxed w g cs g2 t 4 w1) (a b c d : Value) : ((((w1.setCell ⟨g2, 0, none⟩ a).setCell ⟨g2, 1, none⟩ b).setCell ⟨g2, 2, none⟩ c).setCell ⟨g2, 3, none⟩ d).heap[g2]? = some (.cells #[a, b, c, d] t (0, 0)) := by
  obtain ⟨_, _, _, h3, h4⟩ := h
  generalize oldAt w1 g2 = old at h3 h4
  rw [setCell_eq_setRow w1 g2 0 _ _ _ a h3]
  have h5 := setRow_heap w1 g2 _ (old.setIfInBounds 0 a) _ _ h3
  rw [setCell_eq_setRow _ g2 1 _ _ _ b h5]
  have h6 := setRow_heap _ g2 _ ((old.setIfInBounds 0 a).setIfInBounds 1 b) _ _ h5
  rw [setCell_eq_setRow _ g2 2 _ _ _ c h6]
  have h7 := setRow_heap _ g2 _ (((old.setIfInBounds 0 a).setIfInBounds 1 b).setIfInBounds 2 c) _ _ h6
  rw [setCell_eq_setRow _ g2 3 _ _ _ d h7]
  have h8 := setRow_heap _ g2 _ ((((old.setIfInBounds 0 a).setIfInBounds 1 b).setIfInBounds 2 c).setIfInBounds 3 d) _ _ h7
  rw [h8]
  congr 2
  apply Array.ext_getElem?
  intro i
  match i with
  | 0 => simp [Array.getElem?_setIfInBounds, h4]
  | 1 => simp [Array.getElem?_setIfInBounds, h4]
  | 2 => simp [Array.getElem?_setIfInBounds, h4]
  | 3 => simp [Array.getElem?_setIfInBounds, h4]
  | i + 4 => rw [Array.getElem?_eq_none (by simp; omega), Array.getElem?_eq_none (by simp)]
theorem Boxed.start (w : World) (cs zs : List Value) (t1 t : TypeId) : Boxed w w.heap.size cs (w.heap.size + 1) t zs.length ((w.alloc (.cells cs.toArray t1)).alloc (.cells zs.toArray t)) := by
  have hin : In w ((w.alloc (.cells cs.toArray t1)).alloc (.cells zs.toArray t)) := In.alloc (In.alloc (In.refl w) _) _
  have hb : ((w.alloc (.cells cs.toArray t1)).alloc (.cells zs.toArray t)).heap[w.heap.size + 1]? = some (.cells zs.toArray t (0, 0)) := by
    have := blk_new (w.alloc (.cells cs.toArray t1)) (.cells zs.toArray t)
    rwa [show (w.alloc (.cells cs.toArray t1)).heap.size = w.heap.size + 1 from by simp] at this
  have ho : oldAt ((w.alloc (.cells cs.toArray t1)).alloc (.cells zs.toArray t)) (w.heap.size + 1) = zs.toArray := by unfold oldAt; rw [hb]
  refine ⟨hin, fun i => box_cells w cs t1 _ (In.alloc (In.refl _) _) i, by simp; omega, by rw [ho]; exact hb, by rw [ho]; simp⟩
end
theorem size25 : (Try.prog.info? 25).map (·.size) = some 4 := by kernel_rfl
def FourMade (W w : World) (x : Cfg) (ds : List Value) : Prop := cfgK.M w W.heap.size (fun _ => True) x ds
set_option maxRecDepth 100000 in
set_option maxHeartbeats 1600000 in
theorem ownConfig_any {x : Cfg} {cs : List Value} {w : World} (hA : cfgK.K w x cs) (hl : x.len ≤ 1000000000) :
    Calls Try.prog 83 #[.agg cs.toArray] w fun e w' => ∃ ds, e = .returned (.agg ds.toArray) ∧ FourMade w w' x ds ∧ In w w' := by
  obtain ⟨A0, c0, A1, c1, A2, c2, A3, c3, rfl, l0, g0, l1, g1, l2, g2, l3, g3⟩ := cfgK_open hA
  have HX := Lib.hid (And.intro g0 (And.intro g1 (And.intro g2 g3)))
  have hlen : x.v.length ≤ 1000000000 ∧ x.o.length ≤ 1000000000 ∧ x.l.length ≤ 1000000000 ∧ x.w.length ≤ 1000000000 := by unfold Cfg.len at hl; omega
  have HL := Lib.hid hlen
  clear hA g0 g1 g2 g3 hl hlen
  have hB := Boxed.start w [.slice A0 x.v.length c0, .slice A1 x.o.length c1, .slice A2 x.l.length c2, .slice A3 x.w.length c3] [.slice none 0 0, .slice none 0 0, .slice none 0 0, .slice none 0 0] 25 25
  obtain ⟨B, hBd⟩ : ∃ B : World → Prop, Holds B = Boxed w w.heap.size [.slice A0 x.v.length c0, .slice A1 x.o.length c1, .slice A2 x.l.length c2, .slice A3 x.w.length c3] (w.heap.size + 1) 25 4 := ⟨_, rfl⟩
  have hBin : ∀ w', Holds B w' → In w w' := fun w' h => by rw [hBd] at h; exact h.1
  have hBld : ∀ w', Holds B w' → ∀ i, w'.cell? ⟨w.heap.size, i, none⟩ = ([.slice A0 x.v.length c0, .slice A1 x.o.length c1, .slice A2 x.l.length c2, .slice A3 x.w.length c3] : List Value)[i]? := fun w' h => by rw [hBd] at h; exact h.2.1
  have hBox : ∀ w', Holds B w' → Boxed w w.heap.size [.slice A0 x.v.length c0, .slice A1 x.o.length c1, .slice A2 x.l.length c2, .slice A3 x.w.length c3] (w.heap.size + 1) 25 4 w' := fun w' h => by rw [hBd] at h; exact h
  have hS0 : ∀ w', Holds B w' → w'.cell? ⟨w.heap.size + 1, 0, none⟩ = some ((oldAt w' (w.heap.size + 1)).getD 0 undef) := fun w' h => ((hBox w' h).there (by omega)).1
  have hS1 : ∀ w', Holds B w' → w'.cell? ⟨w.heap.size + 1, 1, none⟩ = some ((oldAt w' (w.heap.size + 1)).getD 1 undef) := fun w' h => ((hBox w' h).there (by omega)).1
  have hS2 : ∀ w', Holds B w' → w'.cell? ⟨w.heap.size + 1, 2, none⟩ = some ((oldAt w' (w.heap.size + 1)).getD 2 undef) := fun w' h => ((hBox w' h).there (by omega)).1
  have hS3 : ∀ w', Holds B w' → w'.cell? ⟨w.heap.size + 1, 3, none⟩ = some ((oldAt w' (w.heap.size + 1)).getD 3 undef) := fun w' h => ((hBox w' h).there (by omega)).1
  have hF0 : ∀ w', Holds B w' → w'.frozen? ⟨w.heap.size + 1, 0, none⟩ = false := fun w' h => ((hBox w' h).there (i := 0) (by omega)).2
  have hF1 : ∀ w', Holds B w' → w'.frozen? ⟨w.heap.size + 1, 1, none⟩ = false := fun w' h => ((hBox w' h).there (i := 1) (by omega)).2
  have hF2 : ∀ w', Holds B w' → w'.frozen? ⟨w.heap.size + 1, 2, none⟩ = false := fun w' h => ((hBox w' h).there (i := 2) (by omega)).2
  have hF3 : ∀ w', Holds B w' → w'.frozen? ⟨w.heap.size + 1, 3, none⟩ = false := fun w' h => ((hBox w' h).there (i := 3) (by omega)).2
  have hBnext : ∀ w1 w2, Holds B w1 → In w1 w2 → Holds B w2 := fun w1 w2 h hb => by rw [hBd] at h ⊢; exact h.next hb
  have hBset : ∀ w1 (i : Nat) (v : Value), Holds B w1 → Holds B (w1.setCell ⟨w.heap.size + 1, i, none⟩ v) := fun w1 i v h => by rw [hBd] at h ⊢; exact h.set (by omega) (by omega) i v
  have hB0 := hB
  rw [show ([.slice none 0 0, .slice none 0 0, .slice none 0 0, .slice none 0 0] : List Value).length = 4 from rfl, ← hBd] at hB0
  have hL0 : ∀ w', Holds B w' → w'.cell? ⟨w.heap.size, 0, none⟩ = some (.slice A0 x.v.length c0) := fun w' h => hBld w' h 0
  have hL1 : ∀ w', Holds B w' → w'.cell? ⟨w.heap.size, 1, none⟩ = some (.slice A1 x.o.length c1) := fun w' h => hBld w' h 1
  have hL2 : ∀ w', Holds B w' → w'.cell? ⟨w.heap.size, 2, none⟩ = some (.slice A2 x.l.length c2) := fun w' h => hBld w' h 2
  have hL3 : ∀ w', Holds B w' → w'.cell? ⟨w.heap.size, 3, none⟩ = some (.slice A3 x.w.length c3) := fun w' h => hBld w' h 3
  clear hB hBd hBld
  go_enter Try.func83, Try.ntmps83
  go_wp2_with fail
  generalize (w.alloc (.cells #[.slice A0 x.v.length c0, .slice A1 x.o.length c1, .slice A2 x.l.length c2, .slice A3 x.w.length c3] 25)).alloc _ = wo at hB0 ⊢
  go_region_held3? (fun w' => Holds B w') (first | exact hBnext _ _ hB0 (In.drew (In.refl _)) | exact hBnext _ _ (by assumption) (by assumption) | exact hBset _ _ _ (hBset _ _ _ (hBset _ _ _ (hBset _ _ _ (by assumption)))))
    (first
      | (go_at_call 88; (with_reducible refine Calls.mono (cloneInts_any (A := A0) (xs := x.v) (Kd.C_below HX.out.1 (hBin _ (by assumption)).out) HL.out.1) ?_); rintro e wa ⟨r0, rfl, hr0, hb0⟩; obtain ⟨B0, d0, rfl⟩ := Kd.R_slice hr0)
      | (go_at_call 88; (with_reducible refine Calls.mono (cloneInts_any (A := A1) (xs := x.o) (Kd.C_below HX.out.2.1 (hBin _ (by assumption)).out) HL.out.2.1) ?_); rintro e wb ⟨r1, rfl, hr1, hb1⟩; obtain ⟨B1, d1, rfl⟩ := Kd.R_slice hr1)
      | (go_at_call 88; (with_reducible refine Calls.mono (cloneInts_any (A := A2) (xs := x.l) (Kd.C_below HX.out.2.2.1 (hBin _ (by assumption)).out) HL.out.2.2.1) ?_); rintro e wc ⟨r2, rfl, hr2, hb2⟩; obtain ⟨B2, d2, rfl⟩ := Kd.R_slice hr2)
      | (go_at_call 88; (with_reducible refine Calls.mono (cloneInts_any (A := A3) (xs := x.w) (Kd.C_below HX.out.2.2.2 (hBin _ (by assumption)).out) HL.out.2.2.2) ?_); rintro e wd ⟨r3, rfl, hr3, hb3⟩; obtain ⟨B3, d3, rfl⟩ := Kd.R_slice hr3))
  have hb : ∀ i, i ≠ w.heap.size + 1 → ((((wd.setCell ⟨w.heap.size + 1, 0, none⟩ (Value.slice B0 x.v.length d0)).setCell ⟨w.heap.size + 1, 1, none⟩ (Value.slice B1 x.o.length d1)).setCell ⟨w.heap.size + 1, 2, none⟩ (Value.slice B2 x.l.length d2)).setCell ⟨w.heap.size + 1, 3, none⟩ (Value.slice B3 x.w.length d3)).heap[i]? = wd.heap[i]? := fun i hi => by
    rw [Below.heap_setCell _ _ _ i hi, Below.heap_setCell _ _ _ i hi, Below.heap_setCell _ _ _ i hi, Below.heap_setCell _ _ _ i hi]
  have hHd : Holds B wd := hBnext _ _ (hBnext _ _ (hBnext _ _ (hBnext _ _ (hBnext _ _ hB0 (In.drew (In.refl _))) hb0) hb1) hb2) hb3
  have hBd := hBox wd hHd
  have hfour := hBd.four (.slice B0 x.v.length d0) (.slice B1 x.o.length d1) (.slice B2 x.l.length d2) (.slice B3 x.w.length d3)
  have hz := hBin _ (show Holds B ((((wd.setCell ⟨w.heap.size + 1, 0, none⟩ (Value.slice B0 x.v.length d0)).setCell ⟨w.heap.size + 1, 1, none⟩ (Value.slice B1 x.o.length d1)).setCell ⟨w.heap.size + 1, 2, none⟩ (Value.slice B2 x.l.length d2)).setCell ⟨w.heap.size + 1, 3, none⟩ (Value.slice B3 x.w.length d3)) by assumption)
  have hw0 := In.drew (hBin wo hB0)
  have m0 := Lib.hid (((hr0.lower hw0).below (hb1.trans (hb2.trans hb3))).far hBd.2.2.2.1 (by decide) hb)
  have m1 := Lib.hid (((hr1.lower (hw0.trans hb0)).below (hb2.trans hb3)).far hBd.2.2.2.1 (by decide) hb)
  have m2 := Lib.hid (((hr2.lower (hw0.trans (hb0.trans hb1))).below hb3).far hBd.2.2.2.1 (by decide) hb)
  have m3 := Lib.hid ((hr3.lower (hw0.trans (hb0.trans (hb1.trans hb2)))).far hBd.2.2.2.1 (by decide) hb)
  clear hr0 hr1 hr2 hr3 hb
  generalize (((wd.setCell ⟨w.heap.size + 1, 0, none⟩ (Value.slice B0 x.v.length d0)).setCell ⟨w.heap.size + 1, 1, none⟩ (Value.slice B1 x.o.length d1)).setCell ⟨w.heap.size + 1, 2, none⟩ (Value.slice B2 x.l.length d2)).setCell ⟨w.heap.size + 1, 3, none⟩ (Value.slice B3 x.w.length d3) = wz at *
  have q0 := blk_cell hfour 0
  have q1 := blk_cell hfour 1
  have q2 := blk_cell hfour 2
  have q3 := blk_cell hfour 3
  go_wp2_with fail
  refine bodyPost_ret (results_cell_row rfl _ _ (w.heap.size + 1) 25 _ (0, 0) _ rfl hfour Try.underlying25 rfl size25) rfl ?_
  exact ⟨_, rfl, cfgK_mkM m0.out m1.out m2.out m3.out, hz⟩
end Go.Proofs.Ytgpnfgjmdehfdaa
