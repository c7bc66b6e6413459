/- A part of the proofs over package sum and its reference: the walks, or what they lean on. -/
import Derived.Test.YtkoofoglcheonaaSumA
namespace Go.Proofs.Ytkoofoglcheonaa
set_option linter.unusedVariables false
set_option linter.unusedSimpArgs false
open Go.RowKit Go.Proofs.YtkoofoglcheonaaW.PrintWords

theorem shift_4 (b o r : Nat) (w : World) (hr : r < 4294967296) (hc : w.cell? ⟨b, o, none⟩ = some (.int .u32 r)) (hf : w.frozen? ⟨b, o, none⟩ = false) :
    Calls Try.prog 39 #[.pointer (some ⟨b, o, none⟩), .int .i64 4] w fun e w' => e = .returned (.tuple #[]) ∧ w' = w.setCell ⟨b, o, none⟩ (.int .u32 (Crc.It 4 r : Nat)) := shift_any b o 4 r w (by omega) hr hc hf
theorem shift_8 (b o r : Nat) (w : World) (hr : r < 4294967296) (hc : w.cell? ⟨b, o, none⟩ = some (.int .u32 r)) (hf : w.frozen? ⟨b, o, none⟩ = false) :
    Calls Try.prog 39 #[.pointer (some ⟨b, o, none⟩), .int .i64 8] w fun e w' => e = .returned (.tuple #[]) ∧ w' = w.setCell ⟨b, o, none⟩ (.int .u32 (Crc.It 8 r : Nat)) := shift_any b o 8 r w (by omega) hr hc hf

/-- The summer's cells, its first k rows filled. -/
def sumCells (r k : Nat) : Array Value := (Value.int .u32 (r : Int) :: (List.range 16).map fun j => Value.int .u32 ((if j < k then Crc.It 4 j else 0 : Nat) : Int)).toArray

theorem sumCells_at (r k j : Nat) (hj : j < 16) : (sumCells r k)[1 + j]? = some (Value.int .u32 ((if j < k then Crc.It 4 j else 0 : Nat) : Int)) := by
  unfold sumCells
  rw [List.getElem?_toArray, Nat.add_comm, List.getElem?_cons_succ, List.getElem?_map, List.getElem?_range hj]
  rfl
theorem sumCells_zero (r k : Nat) : (sumCells r k)[0]? = some (Value.int .u32 (r : Int)) := rfl

theorem sumCells_set (r k : Nat) (hk : k < 16) : (sumCells r k).setIfInBounds (1 + k) (Value.int .u32 ((Crc.It 4 k : Nat) : Int)) = sumCells r (k + 1) := by
  apply Array.ext_getElem?
  intro i
  rw [Array.getElem?_setIfInBounds]
  have hsz : (sumCells r k).size = 17 := by simp [sumCells]
  have hsz' : (sumCells r (k + 1)).size = 17 := by simp [sumCells]
  by_cases h0 : i = 0
  · subst h0
    rw [if_neg (by omega), sumCells_zero, sumCells_zero]
  · obtain ⟨j, rfl⟩ : ∃ j, i = 1 + j := ⟨i - 1, by omega⟩
    by_cases hj : j < 16
    · rw [sumCells_at r k j hj, sumCells_at r (k + 1) j hj]
      by_cases he : j = k
      · subst he
        rw [if_pos rfl, if_pos (by omega), if_pos (by omega)]
      · rw [if_neg (by omega)]
        by_cases hl : j < k
        · rw [if_pos hl, if_pos (by omega)]
        · rw [if_neg hl, if_neg (by omega)]
    · rw [if_neg (by omega), Array.getElem?_eq_none (by omega), Array.getElem?_eq_none (by omega)]

set_option maxHeartbeats 400000 in
theorem begun_any (r : Nat) (w : World) (hr : r < 4294967296) :
    Calls Try.prog 37 #[.int .u32 r] w fun e w' => ∃ g, e = .returned (.pointer (some ⟨g, 0, none⟩)) ∧ w.heap.size ≤ g ∧ w'.heap[g]? = some (.cells (sumCells r 16) 72 (0, 0)) ∧ Below w.heap.size w w' := by
  go_enter Try.func37, Try.ntmps37
  go_wp2
  go_loopw [10] (fun i wr => ∃ k : Nat, k ≤ 16 ∧ i = .int .i64 k ∧ wr.heap[w.heap.size]? = some (.cells (sumCells r k) 72 (0, 0)) ∧ Below w.heap.size w wr) (fun i _ => 16 - (intOf i).toNat)
  case atStart =>
    refine ⟨0, by omega, rfl, ?_, (Below.refl _ _).alloc (Nat.le_refl _) _⟩
    rw [blk_new]
    rfl
  case round =>
    obtain ⟨k, hk, rfl, hb, hbel⟩ := hrel
    by_cases hlt : k < 16
    · have hsz := blk_lt hb
      go_wp2_with fail
      refine (shift_4 _ _ k _ (by omega) (by go_simp) (by go_simp)).mono ?_
      rintro e w1 ⟨rfl, rfl⟩
      have hcell : wr.cell? ⟨w.heap.size, 1 + k, none⟩ = some (.int .u32 0) := by
        rw [blk_cell hb, sumCells_at r k k hlt, if_neg (by omega)]; rfl
      have hfr : wr.frozen? ⟨w.heap.size, 1 + k, none⟩ = false := blk_frozen hb _
      go_wp2_with fail
      go_region
      go_wp2_with fail
      go_roundw
      case rel =>
        refine ⟨k + 1, by omega, by go_num, blk_drew (blk_alloc (blk_put hb (1 + k) _ (sumCells_set r k hlt)) _), ?_⟩
        exact ((hbel.setCell (p := ⟨w.heap.size, 1 + k, none⟩) (Nat.le_refl _) _).alloc (by simp [World.setCell]; omega) _).drew
      case measure => simp [intOf]; omega
    · obtain rfl : k = 16 := by omega
      go_wp2
      go_ret
      exact ⟨_, rfl, Nat.le_refl _, hb, hbel⟩
end Go.Proofs.Ytkoofoglcheonaa
