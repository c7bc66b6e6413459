/- A part of the proofs over package sum and its reference: the walks, or what they lean on. -/
import Derived.Test.YtkoofoglcheonaaSumB
import Derived.Lib.Hide
namespace Go.Proofs.Ytkoofoglcheonaa
set_option linter.unusedVariables false
set_option linter.unusedSimpArgs false
open Go.RowKit Go.Proofs.YtkoofoglcheonaaW.PrintWords

theorem sumCells_first (r r' k : Nat) : (sumCells r k).setIfInBounds 0 (Value.int .u32 (r' : Int)) = sumCells r' k := by
  unfold sumCells
  simp
theorem World.grownBy_setCell (w : World) (a : Addr) (v : Value) : w.grownBy (w.setCell a v) (some a.block) :=
  ⟨rfl, rfl, rfl, by simp [World.setCell], fun i _ hne => Below.heap_setCell w a v i (fun e => hne (by rw [e]))⟩
theorem World.grownBy_drew' {w w1 : World} {row : Option Nat} (h : w.grownBy w1 row) : w.grownBy w1.drew row := ⟨h.os, h.tape, h.output, h.size, h.block⟩
set_option maxHeartbeats 800000 in
theorem feed_any (g r b : Nat) (w : World) (hr : r < 4294967296) (hb8 : b < 256) (hb : w.heap[g]? = some (.cells (sumCells r 16) 72 (0, 0))) :
    Calls Try.prog 38 #[.pointer (some ⟨g, 0, none⟩), .int .u8 b] w fun e w' => e = .returned (.tuple #[]) ∧ w'.heap[g]? = some (.cells (sumCells (Crc.feed r b) 16) 72 (0, 0)) ∧ w.grownBy w' (some g) ∧ w'.heap.size = w.heap.size := by
  have hc0 : w.cell? ⟨g, 0, none⟩ = some (.int .u32 r) := by rw [blk_cell hb]; rfl
  have hf0 : w.frozen? ⟨g, 0, none⟩ = false := blk_frozen hb _
  go_enter Try.func38, Try.ntmps38
  go_wp2_with fail
  have hx0 : bits .xor .u32 (r : Int) (b : Int) = ((Crc.It (4 * 0) (r ^^^ b) : Nat) : Int) := bits_xor_u32 r b hr (by omega)
  have hx1 : r ^^^ b < 4294967296 := Nat.xor_lt_two_pow (n := 32) hr (by omega)
  go_loopw [15] (fun i wr => ∃ k : Nat, k ≤ 2 ∧ i = .int .i64 k ∧ wr.heap[g]? = some (.cells (sumCells (Crc.It (4 * k) (r ^^^ b)) 16) 72 (0, 0)) ∧ w.grownBy wr (some g) ∧ wr.heap.size = w.heap.size) (fun i _ => 2 - (intOf i).toNat)
  case atStart =>
    exact ⟨0, by omega, rfl, blk_put hb 0 _ (by rw [hx0]; exact sumCells_first _ _ _), World.grownBy_setCell _ _ _, by simp [World.setCell]⟩
  case round =>
    clear hx0 hb hc0 hf0
    obtain ⟨k, hk, rfl, hb, hg, hsz⟩ := hrel
    by_cases hlt : k < 2
    · have hxk := Crc.It_lt (4 * k) hx1
      have hn : Crc.It (4 * (k + 1)) (r ^^^ b) = Crc.It 4 (Crc.It (4 * k) (r ^^^ b)) := by rw [Nat.mul_add, Crc.It_add]
      have HN := Lib.hid hn
      clear hn
      generalize Crc.It (4 * k) (r ^^^ b) = x at *
      have hc0 : wr.cell? ⟨g, 0, none⟩ = some (.int .u32 x) := by rw [blk_cell hb]; rfl
      have hf0 : wr.frozen? ⟨g, 0, none⟩ = false := blk_frozen hb _
      have hlow := low_spelt x (by omega)
      have hm : x % 16 < 16 := Nat.mod_lt _ (by omega)
      have hc1 : wr.cell? ⟨g, 1 + x % 16, none⟩ = some (.int .u32 (Crc.It 4 (x % 16) : Nat)) := by rw [blk_cell hb, sumCells_at x 16 _ hm, if_pos hm]
      have hnib := nibble_spelt x (by omega)
      go_wp2_with fail
      go_region
      go_wp2_with fail
      go_roundw
      case rel =>
        refine ⟨k + 1, by omega, by go_num, blk_drew (blk_put hb 0 _ (by rw [HN.out]; exact sumCells_first _ _ _)), ?_, ?_⟩
        · exact hg.trans (World.grownBy_drew' (World.grownBy_setCell wr ⟨g, 0, none⟩ _))
        · simp [World.setCell, hsz]
      case measure => simp [intOf]; omega
    · obtain rfl : k = 2 := by omega
      go_wp2
      go_end0
      exact ⟨rfl, hb, hg, hsz⟩
end Go.Proofs.Ytkoofoglcheonaa
