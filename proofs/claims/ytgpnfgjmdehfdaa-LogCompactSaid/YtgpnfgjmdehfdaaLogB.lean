/- A log is made. -/
import Derived.Test.YtgpnfgjmdehfdaaLogA
namespace Go.Proofs.Ytgpnfgjmdehfdaa
set_option linter.unusedVariables false
set_option linter.unusedSimpArgs false
open Go.RowKit Go.Proofs.YtgpnfgjmdehfdaaW.PrintWords

/-- A log as the document has it. -/
structure LM where
  i : Int
  t : Int
  g : Cfg
  es : List Ent
/-- The program's log at block p: what it leads to lies in blocks that satisfy ok. -/
def IsLog (W : World) (p : Nat) (ok : Nat → Prop) (m : LM) : Prop :=
  ∃ A0 c0 A1 c1 A2 c2 A3 c3 A c, W.heap[p]? = some (.cells #[.int .i64 m.i, .int .i64 m.t, .slice A0 m.g.v.length c0, .slice A1 m.g.o.length c1, .slice A2 m.g.l.length c2, .slice A3 m.g.w.length c3, .bool true, .slice A m.es.length c] 37 (0, 0))
    ∧ Kd.FK cfgK W (fun k => ok k ∧ some k ≠ (Value.slice A m.es.length c).ownBlock) m.g [.slice A0 m.g.v.length c0, .slice A1 m.g.o.length c1, .slice A2 m.g.l.length c2, .slice A3 m.g.w.length c3] ∧ Kd.N entK 45 W 0 ok (.slice A m.es.length c) m.es ∧ ¬ ok p
theorem IsLog.sees {W : World} {p : Nat} {ok : Nat → Prop} {m : LM} (h : IsLog W p ok m) : ∃ A c, Sees W p m.i m.t A m.es.length c ∧ entK.C W A m.es.length m.es := by
  obtain ⟨A0, c0, A1, c1, A2, c2, A3, c3, A, c, hb, hg, he, hp⟩ := h
  exact ⟨A, c, ⟨blk_cell hb 0, blk_cell hb 1, blk_cell hb 6, blk_cell hb 7⟩, (Kd.N_reads' he).2.2⟩
theorem IsLog.mono {W : World} {p : Nat} {ok ok' : Nat → Prop} {m : LM} (h : IsLog W p ok m) (hok : ∀ k, ok k → ok' k) (hp : ¬ ok' p) : IsLog W p ok' m := by
  obtain ⟨A0, c0, A1, c1, A2, c2, A3, c3, A, c, hb, hg, he, _⟩ := h
  exact ⟨A0, c0, A1, c1, A2, c2, A3, c3, A, c, hb, Kd.FK_mono hg (fun k hk => ⟨hok k hk.1, hk.2⟩), Kd.N_mono he hok, hp⟩
theorem IsLog.step {W W1 : World} {p : Nat} {ok : Nat → Prop} {m : LM} (h : IsLog W p ok m) (hm : ∀ k, k = p ∨ ok k → k < W.heap.size → W1.heap[k]? = W.heap[k]?) : IsLog W1 p ok m := by
  obtain ⟨A0, c0, A1, c1, A2, c2, A3, c3, A, c, hb, hg, he, hp⟩ := h
  exact ⟨A0, c0, A1, c1, A2, c2, A3, c3, A, c, by rw [hm p (.inl rfl) (blk_lt hb)]; exact hb, Kd.FK_step hg (fun k hk => hm k (.inr hk.1)), Kd.N_step he (fun k hk => hm k (.inr hk)), hp⟩
theorem IsLog.in_ {W W1 : World} {p : Nat} {ok : Nat → Prop} {m : LM} (h : IsLog W p ok m) (hb : In W W1) : IsLog W1 p ok m := h.step (fun k _ hk => hb.block k hk)
theorem IsLog.kept {W W1 : World} {p : Nat} {ok S : Nat → Prop} {m : LM} (h : IsLog W p ok m) (hk : Kept W W1 S) (hp : ¬ S p) (hok : ∀ k, ok k → ¬ S k) : IsLog W1 p ok m := h.step (fun k ho hlt => hk.2 k hlt (by
  rcases ho with rfl | ho
  · exact hp
  · exact hok k ho))
def nn (x : Int) : Int := if x < 0 then 0 else x
theorem nn_nonneg (x : Int) : 0 ≤ nn x := by unfold nn; split <;> omega
theorem size37 : (Try.prog.info? 37).map (·.size) = some 8 := by kernel_rfl
theorem size35 : (Try.prog.info? 35).map (·.size) = some 6 := by kernel_rfl
theorem max_nn (ats : Array TypeId) (ty : TypeId) (x : Int) : Builtin.max_ ats ty #[.int .i64 x, .int .i64 0] = pure (.int .i64 (nn x)) := by
  rw [Go.Proofs.YtgpnfgjmdehfdaaW.PrintMore.max_two, Go.Proofs.YtgpnfgjmdehfdaaW.PrintMore.max2_int]
  rfl
set_option maxRecDepth 100000 in
set_option maxHeartbeats 1600000 in
theorem new_any {x : Bas} {cs : List Value} {w : World} (hA : basK.K w x cs) (hl : x.g.len ≤ 1000000000) :
    Calls Try.prog 49 #[.agg cs.toArray] w fun e w' => ∃ p, e = .returned (.pointer (some ⟨p, 0, none⟩)) ∧ IsLog w' p (fun k => w.heap.size ≤ k ∧ k ≠ p) ⟨nn x.i, nn x.t, x.g, []⟩ ∧ w.heap.size ≤ p ∧ In w w' := by
  obtain ⟨A0, c0, A1, c1, A2, c2, A3, c3, rfl, l0, g0, l1, g1, l2, g2, l3, g3⟩ := basK_open hA
  have HX := Lib.hid hA
  clear hA g0 g1 g2 g3
  have hmx := max_nn
  go_enter Try.func49, Try.ntmps49
  go_wp2_with fail
  refine (ownBase_any (x := x) (basK.K_below (by repeat (first | (with_reducible first | exact Below.refl _ _ | assumption | apply below_alloc | apply pw_below_drewN | apply below_drew1))) HX.out) hl).mono ?_
  rintro e w1 ⟨ds, rfl, hm, hb1⟩
  obtain ⟨v0, v1, v2, v3, rfl, m0, m1, m2, m3⟩ := basK_openM hm
  obtain ⟨B0, d0, rfl⟩ := Kd.R_slice m0
  obtain ⟨B1, d1, rfl⟩ := Kd.R_slice m1
  obtain ⟨B2, d2, rfl⟩ := Kd.R_slice m2
  obtain ⟨B3, d3, rfl⟩ := Kd.R_slice m3
  have hin : In w w1 := In.next (by unfold In; repeat (first | (with_reducible first | exact Below.refl _ _ | assumption | apply below_alloc | apply pw_below_drewN | apply below_drew1))) hb1
  have hk0 : w1.heap[w.heap.size]? = some (.cells #[.int .i64 x.i, .int .i64 x.t, .slice A0 x.g.v.length c0, .slice A1 x.g.o.length c1, .slice A2 x.g.l.length c2, .slice A3 x.g.w.length c3] 27 (0, 0)) := blk_below (blk_new w _) hb1
  have HK := Lib.hid hk0
  have hset := setRow_heap w1 w.heap.size _ #[.int .i64 x.i, .int .i64 x.t, .slice B0 x.g.v.length d0, .slice B1 x.g.o.length d1, .slice B2 x.g.l.length d2, .slice B3 x.g.w.length d3] _ _ hk0
  clear hk0
  have hc1 := (bcell hb1).1
  have hc2 := (bcell hb1).2
  have HM := Lib.hid (cfgK_mkM (x := x.g) m0 m1 m2 m3)
  clear m0 m1 m2 m3 hm hc1 hc2
  go_upto_region 2 with (first
    | (refine wpList_store_row rfl 27 (.tmp 1) (.tmp 4) rfl w.heap.size #[.int .i64 x.i, .int .i64 x.t, .slice B0 x.g.v.length d0, .slice B1 x.g.o.length d1, .slice B2 x.g.l.length d2, .slice B3 x.g.w.length d3] rfl rfl 27 _ HK.out size27 rfl (by simp [Value.oneCell']) ?_))
  have hin2 := In.setRow hin (g := w.heap.size) (Nat.le_refl _) #[.int .i64 x.i, .int .i64 x.t, .slice B0 x.g.v.length d0, .slice B1 x.g.o.length d1, .slice B2 x.g.l.length d2, .slice B3 x.g.w.length d3]
  have hmv : ∀ i, i ≠ w.heap.size → (w1.setRow w.heap.size #[.int .i64 x.i, .int .i64 x.t, .slice B0 x.g.v.length d0, .slice B1 x.g.o.length d1, .slice B2 x.g.l.length d2, .slice B3 x.g.w.length d3]).heap[i]? = w1.heap[i]? := fun i hi => setRow_other _ _ _ _ hi
  have HV := Lib.hid hmv
  have hsz : w1.heap.size = (w1.setRow w.heap.size #[.int .i64 x.i, .int .i64 x.t, .slice B0 x.g.v.length d0, .slice B1 x.g.o.length d1, .slice B2 x.g.l.length d2, .slice B3 x.g.w.length d3]).heap.size := by rw [setRow_size]
  clear hmv
  generalize w1.setRow w.heap.size #[.int .i64 x.i, .int .i64 x.t, .slice B0 x.g.v.length d0, .slice B1 x.g.o.length d1, .slice B2 x.g.l.length d2, .slice B3 x.g.w.length d3] = w2 at *
  have q0 := blk_cell hset 0
  have q1 := blk_cell hset 1
  have q3 := blk_frozen hset 0
  have q4 := blk_frozen hset 1
  have HP := Lib.hid (blk_put (blk_put hset 0 (.int .i64 (nn x.i)) rfl) 1 (.int .i64 (nn x.t)) rfl)
  have HSZ := Lib.hid hsz
  clear hset hsz
  go_upto_region 3 with (fail)
  have hin3 := In.set (In.set hin2 (Nat.le_refl w.heap.size) 0 (.int .i64 (nn x.i))) (Nat.le_refl w.heap.size) 1 (.int .i64 (nn x.t))
  have hmv3 : ∀ i, i ≠ w.heap.size → ((w2.setCell ⟨w.heap.size, 0, none⟩ (.int .i64 (nn x.i))).setCell ⟨w.heap.size, 1, none⟩ (.int .i64 (nn x.t))).heap[i]? = w1.heap[i]? := fun i hi => by
    rw [Below.heap_setCell _ _ _ i hi, Below.heap_setCell _ _ _ i hi, HV.out i hi]
  have hsz3 : w1.heap.size = ((w2.setCell ⟨w.heap.size, 0, none⟩ (.int .i64 (nn x.i))).setCell ⟨w.heap.size, 1, none⟩ (.int .i64 (nn x.t))).heap.size := by rw [HSZ.out]; simp [World.setCell]
  have HV3 := Lib.hid hmv3
  have HZ3 := Lib.hid hsz3
  clear hmv3 hsz3 q0 q1 q3 q4
  generalize (w2.setCell ⟨w.heap.size, 0, none⟩ (.int .i64 (nn x.i))).setCell ⟨w.heap.size, 1, none⟩ (.int .i64 (nn x.t)) = w3 at *
  go_wp2_with (first
    | (refine wpList_load_row rfl 27 (.tmp 1) rfl w.heap.size rfl 27 #[.int .i64 (nn x.i), .int .i64 (nn x.t), .slice B0 x.g.v.length d0, .slice B1 x.g.o.length d1, .slice B2 x.g.l.length d2, .slice B3 x.g.w.length d3] (0, 0) _ HP.out Try.underlying27 rfl size27 ?_))
  go_ret
  refine ⟨w3.heap.size, rfl, ?_, hin3.size, In.alloc hin3 _⟩
  have hM1 := cfgK.M_bound HM.out
  have hb0 : (w.alloc (.cells #[.int .i64 x.i, .int .i64 x.t, .slice A0 x.g.v.length c0, .slice A1 x.g.o.length c1, .slice A2 x.g.l.length c2, .slice A3 x.g.w.length c3] 27)).heap.size = w.heap.size + 1 := by simp
  rw [hb0] at hM1
  have hM2 := Kd.M_step (w1 := w3.alloc (.cells #[.int .i64 (nn x.i), .int .i64 (nn x.t), .slice B0 x.g.v.length d0, .slice B1 x.g.o.length d1, .slice B2 x.g.l.length d2, .slice B3 x.g.w.length d3, .bool true, .slice none 0 0] 37)) hM1 (fun k hk hlt => by
    have h3 := HZ3.out
    rw [Below.heap_alloc _ _ _ (by omega)]
    exact HV3.out k (by have := hk.2.1; omega))
  refine ⟨B0, d0, B1, d1, B2, d2, B3, d3, none, 0, blk_new w3 _, Kd.FK_mono (Kd.FK_of_M hM2) (fun k hk => ?_), Kd.N_nil _ _ _ _ _, fun h => h.2 rfl⟩
  have h3 := HZ3.out
  exact ⟨⟨by have := hk.2.1; omega, by have := hk.2.2.1; omega⟩, by simp [Value.ownBlock]⟩
end Go.Proofs.Ytgpnfgjmdehfdaa
