/- A part of the proofs over package sum and its reference: the walks, or what they lean on. -/
import Derived.Test.YtkoofoglcheonaaRefB
import Derived.Test.YtkoofoglcheonaaSumE
namespace Go.Proofs.Ytkoofoglcheonaa
set_option linter.unusedVariables false
set_option linter.unusedSimpArgs false
open Go.RowKit Go.Proofs.YtkoofoglcheonaaW.PrintWords

set_option maxRecDepth 100000 in
set_option maxHeartbeats 800000 in
theorem rtable_any (w : World) :
    Calls Try.prog 20 #[] w fun e w' => e = .returned (.agg (tabCells 256)) ∧ Below w.heap.size w w' := by
  go_enter Try.func20, Try.ntmps20
  go_wp2_with fail
  go_loopw [2, 3, 4] (fun i _ _ wr => ∃ k : Nat, k ≤ 256 ∧ i = .int .i64 k ∧ wr.heap[w.heap.size]? = some (.cells Try.zeroCells35 35 (0, 0)) ∧ wr.heap[w.heap.size + 1]? = some (.cells (tabCells k) 35 (0, 0)) ∧ Below w.heap.size w wr) (fun i _ _ _ => 256 - (intOf i).toNat)
  case atStart =>
    refine ⟨0, by omega, rfl, blk_alloc (blk_new _ _) _, ?_, ((Below.refl _ _).alloc (Nat.le_refl _) _).alloc (by simp) _⟩
    rw [← tabCells_zero]
    have := blk_new (w.alloc (.cells Try.zeroCells35 35)) (.cells Try.zeroCells35 35)
    simpa using this
  case round =>
    obtain ⟨k, hk, rfl, hb0, hb1, hbel⟩ := hrel
    by_cases hlt : k < 256
    · have hsz := blk_lt hb1
      have hdec : decide ((k : Int) < 256) = true := decide_eq_true (by omega)
      have hcell : wr.cell? ⟨w.heap.size + 1, k, none⟩ = some (.int .u32 0) := by
        rw [blk_cell hb1, tabCells_at k k hlt, if_neg (by omega)]; rfl
      have hfr : wr.frozen? ⟨w.heap.size + 1, k, none⟩ = false := blk_frozen hb1 _
      go_wp2_with fail
      go_loop [3, 4] (fun x i => ∃ j : Nat, j ≤ 8 ∧ i = .int .i64 j ∧ x = .int .u32 (Crc.It j k : Nat)) (fun _ i => 8 - (intOf i).toNat)
      case atStart => exact ⟨0, by omega, rfl, rfl⟩
      case round =>
        obtain ⟨j, hj, rfl, rfl⟩ := hrel
        by_cases hjl : j < 8
        · have hx := Crc.It_lt j (r := k) (by omega)
          have hs := Lib.hid (It_snoc j k)
          generalize Crc.It j k = x at *
          go_wp2_with fail
          refine (bit_0 x _ (by omega)).mono ?_
          rintro e w1 ⟨rfl, rfl⟩
          go_wp2_with fail
          go_round
          case rel => exact ⟨j + 1, by omega, by go_num, by rw [hs.out]⟩
          case measure => simp [intOf]; omega
        · obtain rfl : j = 8 := by omega
          go_wp2_with fail
          go_roundw
          case rel =>
            refine ⟨k + 1, by omega, by go_num, (blk_far hb0 (by simp) _), (blk_put hb1 k _ (tabCells_set k hlt)), ?_⟩
            exact (hbel.setCell (p := ⟨w.heap.size + 1, k, none⟩) (by simp) _)
          case measure => simp [intOf]; omega
    · obtain rfl : k = 256 := by omega
      go_wp2_with (first | (refine wpList_load_row rfl 35 _ rfl (w.heap.size + 1) rfl 35 _ _ _ hb1 Try.underlying35 rfl (by rw [tabCells_size]; exact info35) ?_) | (refine wpList_store_row rfl 35 _ _ rfl w.heap.size _ rfl rfl 35 _ hb0 (by rw [tabCells_size]; exact info35) (by rw [tabCells_size, Try.zeroCells35_size]) (tabCells_one _) ?_))
      refine bodyPost_ret (results_cell_row rfl _ _ w.heap.size 35 (tabCells 256) (0, 0) _ rfl (setRow_heap wr _ _ _ _ _ hb0) Try.underlying35 rfl (by rw [tabCells_size]; exact info35)) rfl ⟨rfl, ?_⟩
      exact hbel.trans ⟨rfl, rfl, rfl, by simp, fun i hi => setRow_other wr _ _ _ (by omega)⟩
end Go.Proofs.Ytkoofoglcheonaa
