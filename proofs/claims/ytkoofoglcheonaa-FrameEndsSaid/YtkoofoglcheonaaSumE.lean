/- A part of the proofs over package sum and its reference: the walks, or what they lean on. -/
import Derived.Test.YtkoofoglcheonaaSumD
namespace Go.Proofs.Ytkoofoglcheonaa
set_option linter.unusedVariables false
set_option linter.unusedSimpArgs false
open Go.RowKit Go.Proofs.YtkoofoglcheonaaW.PrintWords

theorem more_0 (A : Option Addr) (n c : Nat) (xss : List (List UInt8)) (w : World) (hA : bytes.C w A n xss) :
    Calls Try.prog 16 #[.int .u32 0, .slice A n c] w fun e w' => e = .returned (.int .u32 (Crc.sum xss.flatten : Nat)) ∧ Below w.heap.size w w' := more_any 0 A n c xss w (by omega) hA
set_option maxHeartbeats 800000 in
theorem sum_any (A : Option Addr) (n c : Nat) (xss : List (List UInt8)) (w : World) (hA : bytes.C w A n xss) :
    Calls Try.prog 14 #[.slice A n c] w fun e w' => e = .returned (.int .u32 (Crc.sum xss.flatten : Nat)) ∧ Below w.heap.size w w' := by
  go_enter Try.func14, Try.ntmps14
  go_wp2_with fail
  refine (more_0 _ _ _ xss _ hA).mono ?_
  rintro e w1 ⟨rfl, hb⟩
  go_wp2_with fail
  go_ret
  exact ⟨rfl, hb⟩
/-- The table's cells, its first k ones filled. -/
def tabCells (k : Nat) : Array Value := ((List.range 256).map fun j => Value.int .u32 ((if j < k then Crc.It 8 j else 0 : Nat) : Int)).toArray
theorem tabCells_at (k j : Nat) (hj : j < 256) : (tabCells k)[j]? = some (Value.int .u32 ((if j < k then Crc.It 8 j else 0 : Nat) : Int)) := by
  unfold tabCells
  rw [List.getElem?_toArray, List.getElem?_map, List.getElem?_range hj]
  rfl
theorem tabCells_size (k : Nat) : (tabCells k).size = 256 := by simp [tabCells]
theorem tabCells_set (k : Nat) (hk : k < 256) : (tabCells k).setIfInBounds k (Value.int .u32 ((Crc.It 8 k : Nat) : Int)) = tabCells (k + 1) := by
  apply Array.ext_getElem?
  intro j
  rw [Array.getElem?_setIfInBounds, tabCells_size]
  by_cases hj : j < 256
  · rw [tabCells_at k j hj, tabCells_at (k + 1) j hj]
    by_cases he : k = j
    · subst he
      rw [if_pos rfl, if_pos (by omega), if_pos (by omega)]
    · rw [if_neg he]
      by_cases hl : j < k
      · rw [if_pos hl, if_pos (by omega)]
      · rw [if_neg hl, if_neg (by omega)]
  · have h1 : (tabCells k)[j]? = none := Array.getElem?_eq_none (by rw [tabCells_size]; omega)
    have h2 : (tabCells (k + 1))[j]? = none := Array.getElem?_eq_none (by rw [tabCells_size]; omega)
    rw [h1, h2]
    rw [if_neg (by omega)]
theorem tabCells_zero : Try.zeroCells35 = tabCells 0 := by kernel_rfl
theorem tabCells_one (k : Nat) : (tabCells k).all (·.oneCell') = true := by
  rw [Array.all_eq_true_iff_forall_mem]
  intro v hv
  simp only [tabCells, List.mem_toArray, List.mem_map] at hv
  obtain ⟨j, _, rfl⟩ := hv
  rfl
theorem info35 : (Try.prog.info? 35).map (·.size) = some 256 := by kernel_rfl
set_option maxRecDepth 100000 in
set_option maxHeartbeats 800000 in
theorem table_any (w : World) :
    Calls Try.prog 19 #[] w fun e w' => e = .returned (.agg (tabCells 256)) ∧ Below w.heap.size w w' := by
  go_enter Try.func19, Try.ntmps19
  go_wp2_with fail
  go_loopw [2, 3, 4] (fun _ _ i wr => ∃ k : Nat, k ≤ 256 ∧ i = .int .i64 k ∧ wr.heap[w.heap.size]? = some (.cells Try.zeroCells35 35 (0, 0)) ∧ wr.heap[w.heap.size + 1]? = some (.cells (tabCells k) 35 (0, 0)) ∧ Below w.heap.size w wr) (fun _ _ i _ => 256 - (intOf i).toNat)
  case atStart =>
    refine ⟨0, by omega, rfl, blk_alloc (blk_new _ _) _, ?_, ((Below.refl _ _).alloc (Nat.le_refl _) _).alloc (by simp) _⟩
    rw [← tabCells_zero]
    have := blk_new (w.alloc (.cells Try.zeroCells35 35)) (.cells Try.zeroCells35 35)
    simpa using this
  case round =>
    obtain ⟨k, hk, rfl, hb0, hb1, hbel⟩ := hrel
    by_cases hlt : k < 256
    · have hsz := blk_lt hb1
      have hcell : wr.cell? ⟨w.heap.size + 1, k, none⟩ = some (.int .u32 0) := by
        rw [blk_cell hb1, tabCells_at k k hlt, if_neg (by omega)]; rfl
      have hfr : wr.frozen? ⟨w.heap.size + 1, k, none⟩ = false := blk_frozen hb1 _
      go_wp2_with fail
      refine (shift_8 _ _ k _ (by omega) (by go_simp) (by go_simp)).mono ?_
      rintro e w1 ⟨rfl, rfl⟩
      go_wp2_with fail
      go_roundw
      case rel =>
        refine ⟨k + 1, by omega, by go_num, blk_alloc (blk_far hb0 (by simp) _) _, blk_alloc (blk_put hb1 k _ (tabCells_set k hlt)) _, ?_⟩
        exact (hbel.setCell (p := ⟨w.heap.size + 1, k, none⟩) (by simp) _).alloc (by simp [World.setCell]; omega) _
      case measure => simp [intOf]; omega
    · obtain rfl : k = 256 := by omega
      go_wp2_with (first | (refine wpList_load_row rfl 35 _ rfl (w.heap.size + 1) rfl 35 _ _ _ hb1 Try.underlying35 rfl (by rw [tabCells_size]; exact info35) ?_) | (refine wpList_store_row rfl 35 _ _ rfl w.heap.size _ rfl rfl 35 _ hb0 (by rw [tabCells_size]; exact info35) (by rw [tabCells_size, Try.zeroCells35_size]) (tabCells_one _) ?_))
      refine bodyPost_ret (results_cell_row rfl _ _ w.heap.size 35 (tabCells 256) (0, 0) _ rfl (setRow_heap wr _ _ _ _ _ hb0) Try.underlying35 rfl (by rw [tabCells_size]; exact info35)) rfl ⟨rfl, ?_⟩
      exact hbel.trans ⟨rfl, rfl, rfl, by simp, fun i hi => setRow_other wr _ _ _ (by omega)⟩
end Go.Proofs.Ytkoofoglcheonaa
