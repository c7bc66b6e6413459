/- The entry at any index of a log. -/
import Derived.Test.YtgpnfgjmdehfdaaTwoA
namespace Go.Proofs.Ytgpnfgjmdehfdaa
set_option linter.unusedVariables false
set_option linter.unusedSimpArgs false
open Go.RowKit Go.Proofs.YtgpnfgjmdehfdaaW.PrintWords

theorem zEnt_K (w : World) : entK.K w zEnt [.int .i64 0, .int .u8 0, .slice none 0 0, .slice none 0 0, .slice none 0 0, .slice none 0 0, .slice none 0 0] :=
  entK_mk (x := zEnt) (Nat.le_refl 0) (Kd.C_nil _ _) (Nat.le_refl 0) (Kd.C_nil _ _) (Nat.le_refl 0) (Kd.C_nil _ _) (Nat.le_refl 0) (Kd.C_nil _ _) (Nat.le_refl 0) (Kd.C_nil _ _)
set_option maxRecDepth 100000 in
set_option maxHeartbeats 800000 in
theorem at_out {p : Nat} {ok : Nat → Prop} {m : LM} {w : World} (k : Int) (hL : IsLog w p ok m) (hf : Fair m.i m.es.length) (hk : k ≤ m.i ∨ m.i + m.es.length < k) :
    Calls Try.prog 15 #[.pointer (some ⟨p, 0, none⟩), .int .i64 k] w fun e w' => ∃ ds, e = .returned (.tuple #[.agg ds.toArray, .bool false]) ∧ entK.K w' zEnt ds ∧ In w w' := by
  obtain ⟨A, c, hS, hC⟩ := hL.sees
  have hq := Lib.hid (show placeOf m.i m.es.length k = (0, false) by unfold placeOf; rw [if_pos hk])
  have hin := In.alloc (In.refl w) (.cells #[.int .i64 0, .int .u8 0, .slice none 0 0, .slice none 0 0, .slice none 0 0, .slice none 0 0, .slice none 0 0] 45)
  have hblk := blk_new w (.cells #[.int .i64 0, .int .u8 0, .slice none 0 0, .slice none 0 0, .slice none 0 0, .slice none 0 0, .slice none 0 0] 45)
  have hpl := place_yes k (hS.in_ hin) hf
  rw [hq.out] at hpl
  have HPL := Lib.hid hpl
  have HB := Lib.hid hblk
  clear hL hS hC hpl hblk hq hk hf
  go_enter Try.func15, Try.ntmps15
  go_upto_region 1 with (fail)
  generalize w.alloc (.cells #[.int .i64 0, .int .u8 0, .slice none 0 0, .slice none 0 0, .slice none 0 0, .slice none 0 0, .slice none 0 0] 45) = w1 at *
  go_wp2_with fail
  (with_reducible refine HPL.out.mono ?_)
  rintro e w2 ⟨rfl, ⟨n, rfl⟩⟩
  have hr2 := In.drewN (In.refl w1) n
  have HB3 := Lib.hid (blk_below HB.out hr2.out)
  go_wp2_with (refine wpList_store_row rfl 45 (.tmp 4) (.tmp 16) rfl w.heap.size #[.int .i64 0, .int .u8 0, .slice none 0 0, .slice none 0 0, .slice none 0 0, .slice none 0 0, .slice none 0 0] rfl rfl 45 _ HB3.out size45 rfl (by simp [Value.oneCell']) ?_)
  refine bodyPost_ret (results_ct rfl _ _ w.heap.size 45 #[.int .i64 0, .int .u8 0, .slice none 0 0, .slice none 0 0, .slice none 0 0, .slice none 0 0, .slice none 0 0] (0, 0) _ rfl (setRow_heap _ _ _ _ _ _ HB3.out) Try.underlying45 rfl size45) rfl ?_
  exact ⟨[.int .i64 0, .int .u8 0, .slice none 0 0, .slice none 0 0, .slice none 0 0, .slice none 0 0, .slice none 0 0], rfl, zEnt_K _, In.setRow (hin.trans hr2) (Nat.le_refl _) _⟩
/-- Any index. -/
theorem at_any {p : Nat} {ok : Nat → Prop} {m : LM} {w : World} (k : Int) (hL : IsLog w p ok m) (hf : Fair m.i m.es.length) (hs : entsSmall m.es) :
    Calls Try.prog 15 #[.pointer (some ⟨p, 0, none⟩), .int .i64 k] w fun e w' => ∃ ds, e = .returned (.tuple #[.agg ds.toArray, .bool (atOf m k).2]) ∧ entK.K w' (atOf m k).1 ds ∧ In w w' := by
  by_cases h : m.i < k ∧ k ≤ m.i + m.es.length
  · obtain ⟨j, hj⟩ := Int.eq_ofNat_of_zero_le (show 0 ≤ k - m.i - 1 by omega)
    have hjl : j < m.es.length := by omega
    have he : atOf m k = (m.es[j], true) := by
      unfold atOf
      rw [if_pos h, hj, Int.toNat_natCast, List.getD_eq_getElem?_getD, List.getElem?_eq_getElem hjl]
      rfl
    rw [he]
    exact at_yes k hL hf hs (by omega) (List.getElem?_eq_getElem hjl)
  · have he : atOf m k = (zEnt, false) := by unfold atOf; rw [if_neg h]
    rw [he]
    exact at_out k hL hf (by omega)
theorem at_two {W w : World} {p q : Nat} {m n : LM} (k : Int) (h : Two W w p m q n) (hf : Fair m.i m.es.length) (hs : entsSmall m.es) :
    Calls Try.prog 15 #[.pointer (some ⟨p, 0, none⟩), .int .i64 k] w fun e w' => ∃ ds, e = .returned (.tuple #[.agg ds.toArray, .bool (atOf m k).2]) ∧ entK.K w' (atOf m k).1 ds ∧ In w w' := by
  obtain ⟨okp, okq, h⟩ := h
  exact at_any k h.lp hf hs
end Go.Proofs.Ytgpnfgjmdehfdaa
