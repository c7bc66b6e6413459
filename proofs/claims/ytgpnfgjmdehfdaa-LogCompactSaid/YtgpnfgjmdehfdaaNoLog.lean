/- No log, and one that nobody made: what its methods tell. -/
import Derived.Test.YtgpnfgjmdehfdaaOwnB
namespace Go.Proofs.Ytgpnfgjmdehfdaa
set_option linter.unusedVariables false
set_option linter.unusedSimpArgs false
open Go.RowKit Go.Proofs.YtgpnfgjmdehfdaaW.PrintWords

/-- No log: nil, or one that was not made. -/
def NoLog (W : World) (v : Value) : Prop := v = .pointer none ∨ ∃ p, v = .pointer (some ⟨p, 0, none⟩) ∧ W.cell? ⟨p, 6, none⟩ = some (.bool false)
theorem NoLog.in_ {W w : World} {v : Value} (h : NoLog W v) (hb : In W w) : NoLog w v := by
  rcases h with h | ⟨p, h, hc⟩
  · exact .inl h
  · exact .inr ⟨p, h, In.cell hc hb⟩
theorem quiet_same {P : Program} {f : FuncId} {args : Array Value} {w : World} {m n : Nat} {v : Value}
    (h : Calls P f args (w.drewN (m + n)) fun e w' => e = .returned v ∧ w.drewN (m + n) = w') : Calls P f args (w.drewN (m + n)) fun e w'' => e = .returned v ∧ ∃ q, w'' = w.drewN (m + q) :=
  h.mono fun _ _ ⟨he, hq⟩ => ⟨he, n, hq.symm⟩
theorem size45 : (Try.prog.info? 45).map (·.size) = some 7 := by kernel_rfl
theorem there_no {v : Value} {w : World} (h : NoLog w v) : Calls Try.prog 52 #[v] w fun e w' => e = .returned (.bool false) ∧ w = w' := by
  rcases h with rfl | ⟨p, rfl, hc⟩
  all_goals
    go_enter Try.func52, Try.ntmps52
    go_wp2_with fail
    go_ret
    exact ⟨rfl, rfl⟩
theorem last_no {v : Value} {w : World} (h : NoLog w v) : Calls Try.prog 19 #[v] w fun e w' => e = .returned (.int .i64 0) ∧ w = w' := by
  have H := Lib.hid h
  clear h
  go_enter Try.func19, Try.ntmps19
  go_wp2_with fail
  refine (there_no H.out).mono ?_
  rintro e w1 ⟨rfl, rfl⟩
  go_wp2_with fail
  go_ret
  exact ⟨rfl, rfl⟩
theorem place_no {v : Value} {w : World} (i : Int) (h : NoLog w v) : Calls Try.prog 54 #[v, .int .i64 i] w fun e w' => e = .returned (.tuple #[.int .i64 0, .bool false]) ∧ w = w' := by
  have H := Lib.hid h
  clear h
  go_enter Try.func54, Try.ntmps54
  go_wp2_with fail
  refine (there_no H.out).mono ?_
  rintro e w1 ⟨rfl, rfl⟩
  go_wp2_with fail
  go_ret2
  exact ⟨rfl, rfl⟩
theorem term_no {v : Value} {w : World} (i : Int) (h : NoLog w v) : Calls Try.prog 14 #[v, .int .i64 i] w fun e w' => e = .returned (.tuple #[.int .i64 0, .bool false]) ∧ w = w' := by
  have H := Lib.hid h
  clear h
  go_enter Try.func14, Try.ntmps14
  go_wp2_with fail
  refine (place_no _ H.out).mono ?_
  rintro e w1 ⟨rfl, rfl⟩
  go_wp2_with fail
  refine (there_no H.out).mono ?_
  rintro e w1 ⟨rfl, rfl⟩
  go_wp2_with fail
  go_ret2
  exact ⟨rfl, rfl⟩
theorem take_no {v s : Value} {w : World} (i : Int) (h : NoLog w v) : Calls Try.prog 13 #[v, .int .i64 i, s] w fun e w' => e = .returned (.tuple #[.int .i64 0, .bool false]) ∧ w = w' := by
  have H := Lib.hid h
  clear h
  go_enter Try.func13, Try.ntmps13
  go_wp2_with fail
  refine (there_no H.out).mono ?_
  rintro e w1 ⟨rfl, rfl⟩
  go_wp2_with fail
  go_ret2
  exact ⟨rfl, rfl⟩
theorem put_no {v s : Value} {w : World} (h : NoLog w v) : Calls Try.prog 17 #[v, s] w fun e w' => e = .returned (.int .i64 0) ∧ w = w' := by
  have H := Lib.hid h
  clear h
  go_enter Try.func17, Try.ntmps17
  go_wp2_with fail
  refine (there_no H.out).mono ?_
  rintro e w1 ⟨rfl, rfl⟩
  go_wp2_with fail
  refine (last_no H.out).mono ?_
  rintro e w1 ⟨rfl, rfl⟩
  go_wp2_with fail
  go_ret
  exact ⟨rfl, rfl⟩
theorem compact_no {v : Value} {w : World} (i : Int) (h : NoLog w v) : Calls Try.prog 20 #[v, .int .i64 i] w fun e w' => e = .returned (.bool false) ∧ w = w' := by
  have H := Lib.hid h
  clear h
  go_enter Try.func20, Try.ntmps20
  go_wp2_with fail
  refine (term_no _ H.out).mono ?_
  rintro e w1 ⟨rfl, rfl⟩
  go_wp2_with fail
  go_ret
  exact ⟨rfl, rfl⟩
theorem from_no {v : Value} {w : World} (i j : Int) (h : NoLog w v) : Calls Try.prog 22 #[v, .int .i64 i, .int .i64 j] w fun e w' => e = .returned (.slice none 0 0) ∧ w = w' := by
  have H := Lib.hid h
  clear h
  go_enter Try.func22, Try.ntmps22
  go_wp2_with fail
  refine (place_no _ H.out).mono ?_
  rintro e w1 ⟨rfl, rfl⟩
  go_wp2_with fail
  go_ret
  exact ⟨rfl, rfl⟩
theorem zcfg_K (w : World) : cfgK.K w zCfg [.slice none 0 0, .slice none 0 0, .slice none 0 0, .slice none 0 0] := cfgK_mk (x := zCfg) (Nat.le_refl 0) (Kd.C_nil _ _) (Nat.le_refl 0) (Kd.C_nil _ _) (Nat.le_refl 0) (Kd.C_nil _ _) (Nat.le_refl 0) (Kd.C_nil _ _)
theorem zbas_K (w : World) : basK.K w zBas [.int .i64 0, .int .i64 0, .slice none 0 0, .slice none 0 0, .slice none 0 0, .slice none 0 0] := basK_mk (x := zBas) (Nat.le_refl 0) (Kd.C_nil _ _) (Nat.le_refl 0) (Kd.C_nil _ _) (Nat.le_refl 0) (Kd.C_nil _ _) (Nat.le_refl 0) (Kd.C_nil _ _)
theorem NoLog.more {w : World} {m n : Nat} {v : Value} (h : NoLog (w.drewN m) v) : NoLog (w.drewN (m + n)) v := h.in_ (by rw [← World.drewN_drewN]; exact In.drewN (In.refl _) _)
theorem install_no {v : Value} {cs : List Value} {x : Bas} {w : World} (h : NoLog w v) (hc : basK.K w x cs) : Calls Try.prog 21 #[v, .agg cs.toArray] w fun e w' => e = .returned (.bool false) ∧ In w w' := by
  obtain ⟨A0, c0, A1, c1, A2, c2, A3, c3, rfl, _⟩ := basK_open hc
  have H := Lib.hid (NoLog.in_ h (In.alloc (In.refl w) (.cells #[.int .i64 x.i, .int .i64 x.t, .slice A0 x.g.v.length c0, .slice A1 x.g.o.length c1, .slice A2 x.g.l.length c2, .slice A3 x.g.w.length c3] 27)))
  clear h hc
  go_enter Try.func21, Try.ntmps21
  go_wp2_with fail
  have hwo : In w (w.alloc (.cells #[.int .i64 x.i, .int .i64 x.t, .slice A0 x.g.v.length c0, .slice A1 x.g.o.length c1, .slice A2 x.g.l.length c2, .slice A3 x.g.w.length c3] 27)) := In.alloc (In.refl w) _
  generalize w.alloc (.cells _ 27) = wo at *
  obtain ⟨w9, n9, rfl⟩ : ∃ (w9 : World) (n9 : Nat), wo = w9.drewN n9 := ⟨wo, 0, rfl⟩
  go_quiet ((go_at_call 52; exact quiet_same (there_no H.out.more)))
  go_wp2_with fail
  go_ret
  exact ⟨rfl, In.drewN hwo _⟩
theorem base_no {v : Value} {w : World} (h : NoLog w v) : Calls Try.prog 24 #[v] w fun e w' => e = .returned (.agg #[.int .i64 0, .int .i64 0, .slice none 0 0, .slice none 0 0, .slice none 0 0, .slice none 0 0]) ∧ w' = w.alloc (.cells #[.int .i64 0, .int .i64 0, .slice none 0 0, .slice none 0 0, .slice none 0 0, .slice none 0 0] 27) := by
  have H := Lib.hid (NoLog.in_ h (In.alloc (In.refl w) (.cells #[.int .i64 0, .int .i64 0, .slice none 0 0, .slice none 0 0, .slice none 0 0, .slice none 0 0] 27)))
  clear h
  go_enter Try.func24, Try.ntmps24
  go_wp2_with fail
  refine (there_no H.out).mono ?_
  rintro e w1 ⟨rfl, rfl⟩
  go_wp2_with fail
  refine bodyPost_ret (results_cell_row rfl _ _ w.heap.size 27 _ (0, 0) _ rfl (blk_new w _) Try.underlying27 rfl size27) rfl ?_
  exact ⟨rfl, rfl⟩
theorem config_no {v : Value} {w : World} (h : NoLog w v) : Calls Try.prog 16 #[v] w fun e w' => e = .returned (.tuple #[.agg #[.slice none 0 0, .slice none 0 0, .slice none 0 0, .slice none 0 0], .int .i64 0]) ∧ w' = w.alloc (.cells #[.slice none 0 0, .slice none 0 0, .slice none 0 0, .slice none 0 0] 25) := by
  have H := Lib.hid (NoLog.in_ h (In.alloc (In.refl w) (.cells #[.slice none 0 0, .slice none 0 0, .slice none 0 0, .slice none 0 0] 25)))
  clear h
  go_enter Try.func16, Try.ntmps16
  go_wp2_with fail
  refine (there_no H.out).mono ?_
  rintro e w1 ⟨rfl, rfl⟩
  go_wp2_with fail
  refine bodyPost_ret (results_ct rfl _ _ w.heap.size 25 _ (0, 0) _ rfl (blk_new w _) Try.underlying25 rfl size25) rfl ?_
  exact ⟨rfl, rfl⟩
theorem at_no {v : Value} {w : World} (i : Int) (h : NoLog w v) : Calls Try.prog 15 #[v, .int .i64 i] w fun e w' => e = .returned (.tuple #[.agg #[.int .i64 0, .int .u8 0, .slice none 0 0, .slice none 0 0, .slice none 0 0, .slice none 0 0, .slice none 0 0], .bool false]) ∧ w' = w.alloc (.cells #[.int .i64 0, .int .u8 0, .slice none 0 0, .slice none 0 0, .slice none 0 0, .slice none 0 0, .slice none 0 0] 45) := by
  have H := Lib.hid (NoLog.in_ h (In.alloc (In.refl w) (.cells #[.int .i64 0, .int .u8 0, .slice none 0 0, .slice none 0 0, .slice none 0 0, .slice none 0 0, .slice none 0 0] 45)))
  clear h
  go_enter Try.func15, Try.ntmps15
  go_wp2_with fail
  refine (place_no _ H.out).mono ?_
  rintro e w1 ⟨rfl, rfl⟩
  go_wp2_with fail
  refine bodyPost_ret (results_ct rfl _ _ w.heap.size 45 _ (0, 0) _ rfl (blk_new w _) Try.underlying45 rfl size45) rfl ?_
  exact ⟨rfl, rfl⟩
theorem size29 : (Try.prog.info? 29).map (·.size) = some 9 := by kernel_rfl
theorem one_row {α : Type} {d : Kd α} {W : World} {x : α} {cs : List Value} {e : TypeId} (h : d.K W x cs) : d.C (W.alloc (.cells cs.toArray e)) (some ⟨W.heap.size, 0, none⟩) 1 [x] := by
  refine ⟨rfl, by omega, fun _ => ⟨_, rfl, fun j p hp => ?_⟩⟩
  match j, hp with
  | 0, hp =>
    cases hp
    refine ⟨cs, d.K_len h, d.K_below (below_alloc (Below.refl _ _) _) h, fun i u hu => ?_⟩
    rw [Nat.zero_mul, Nat.zero_add, add_plain]
    have := box_cells W cs e _ (In.refl _) i
    rw [hu] at this
    exact this
end Go.Proofs.Ytgpnfgjmdehfdaa
