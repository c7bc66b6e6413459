/- One entry of a term; rows of one. -/
import Derived.Test.YtgpnfgjmdehfdaaTakeB
namespace Go.Proofs.Ytgpnfgjmdehfdaa
set_option linter.unusedVariables false
set_option linter.unusedSimpArgs false
open Go.RowKit Go.Proofs.YtgpnfgjmdehfdaaW.PrintWords

theorem one_rowF {α : Type} {d : Kd α} {W : World} {x : α} {cs : List Value} {e : TypeId} (h : ∀ W', d.K W' x cs) : Kd.F d (W.alloc (.cells cs.toArray e)) (fun k => k = W.heap.size) (some ⟨W.heap.size, 0, none⟩) 1 [x] := fun W' hW => by
  have hb : W'.heap[W.heap.size]? = some (.cells cs.toArray e (0, 0)) := by
    rw [hW W.heap.size rfl (by simp)]
    exact blk_new W _
  refine ⟨rfl, by omega, fun _ => ⟨_, rfl, fun j p hp => ?_⟩⟩
  match j, hp with
  | 0, hp =>
    cases hp
    refine ⟨cs, d.K_len (h W'), h W', fun i u hu => ?_⟩
    rw [Nat.zero_mul, Nat.zero_add, add_plain, blk_cell hb i, List.getElem?_toArray]
    exact hu
/-- An entry that says nothing, of a term. -/
def bare (t : Int) : Ent := ⟨t, 1, [], zCfg⟩
theorem bare_K (t : Int) (w : World) : entK.K w (bare t) [.int .i64 t, .int .u8 1, .slice none 0 0, .slice none 0 0, .slice none 0 0, .slice none 0 0, .slice none 0 0] :=
  entK_mk (x := bare t) (Nat.le_refl 0) (Kd.C_nil _ _) (Nat.le_refl 0) (Kd.C_nil _ _) (Nat.le_refl 0) (Kd.C_nil _ _) (Nat.le_refl 0) (Kd.C_nil _ _) (Nat.le_refl 0) (Kd.C_nil _ _)
theorem entry_any (t : Int) (w : World) : Calls Try.prog 36 #[.int .i64 t] w fun e w' => e = .returned (.agg #[.int .i64 t, .int .u8 1, .slice none 0 0, .slice none 0 0, .slice none 0 0, .slice none 0 0, .slice none 0 0]) ∧ In w w' := by
  have hz := blk_new w (.cells #[.int .i64 0, .int .u8 0, .slice none 0 0, .slice none 0 0, .slice none 0 0, .slice none 0 0, .slice none 0 0] 45)
  have HZ := Lib.hid hz
  clear hz
  go_enter Try.func36, Try.ntmps36
  go_wp2_with (refine wpList_store_row rfl 45 (.tmp 2) (.tmp 4) rfl w.heap.size #[.int .i64 t, .int .u8 1, .slice none 0 0, .slice none 0 0, .slice none 0 0, .slice none 0 0, .slice none 0 0] rfl rfl 45 _ HZ.out size45 rfl (by simp [Value.oneCell']) ?_)
  refine bodyPost_ret (results_cell_row rfl _ _ w.heap.size 45 #[.int .i64 t, .int .u8 1, .slice none 0 0, .slice none 0 0, .slice none 0 0, .slice none 0 0, .slice none 0 0] (0, 0) _ rfl (setRow_heap _ _ _ _ _ _ HZ.out) Try.underlying45 rfl size45) rfl ?_
  exact ⟨rfl, In.setRow (In.alloc (In.refl w) _) (Nat.le_refl _) _⟩
end Go.Proofs.Ytgpnfgjmdehfdaa
