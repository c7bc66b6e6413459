/- A part of the proofs over package sum and its reference: the walks, or what they lean on. -/
import Derived.Test.YtkoofoglcheonaaSumC
import Derived.Test.YtkoofoglcheonaaMem
namespace Go.Proofs.Ytkoofoglcheonaa
set_option linter.unusedVariables false
set_option linter.unusedSimpArgs false
open Go.RowKit Go.Proofs.YtkoofoglcheonaaW.PrintWords

set_option maxHeartbeats 800000 in
theorem more_any (s : Nat) (A : Option Addr) (n c : Nat) (xss : List (List UInt8)) (w : World) (hs : s < 4294967296) (hA : bytes.C w A n xss) :
    Calls Try.prog 16 #[.int .u32 s, .slice A n c] w fun e w' => e = .returned (.int .u32 (Crc.more s xss.flatten : Nat)) ∧ Below w.heap.size w w' := by
  obtain ⟨hlen, hmax⟩ := row_len hA
  have hnot := turn_spelt s hs
  have hts := Crc.turn_lt hs
  have hsig : IntKind.u32.signed = false := rfl
  go_enter Try.func16, Try.ntmps16
  go_wp2_with fail
  refine (begun_any (Crc.turn s) _ hts).mono ?_
  rintro e w1 ⟨g, rfl, hg, hb, hbel⟩
  clear hnot
  go_wp2_with fail
  go_loopw [7, 9, 15] (fun _ _ i wr => ∃ k : Nat, k ≤ n ∧ i = .int .i64 k ∧ wr.heap[g]? = some (.cells (sumCells (Crc.run (Crc.turn s) (xss.take k).flatten) 16) 72 (0, 0)) ∧ Below w.heap.size w wr) (fun _ _ i _ => n - (intOf i).toNat)
  case atStart => exact ⟨0, by omega, rfl, hb, hbel⟩
  case round =>
    clear hb hbel
    obtain ⟨k, hk, rfl, hb, hbel⟩ := hrel
    have hr0 := Crc.run_lt hts (xss.take k).flatten
    by_cases hlt : k < n
    · obtain ⟨ad, A', c', xs, rfl, hx, hcell0, hle, hC⟩ := row_at hA hlt
      have hcell := pw_cell_below hbel hcell0
      clear hcell0
      have hrows := Lib.hid (Crc.run_rows (r := Crc.turn s) hx)
      clear hx
      obtain ⟨_, hmx⟩ := byte_len hC
      generalize Crc.run (Crc.turn s) (xss.take k).flatten = r at *
      go_wp2_with fail
      obtain ⟨wo, rfl⟩ : ∃ wo : World, wo = wr := ⟨_, rfl⟩
      go_loopw [9, 21] (fun _ i wr => ∃ j : Nat, j ≤ xs.length ∧ i = .int .i64 j ∧ wr.heap[g]? = some (.cells (sumCells (Crc.run r (xs.take j)) 16) 72 (0, 0)) ∧ Below w.heap.size w wr ∧ wo.grownBy wr (some g)) (fun _ i _ => xs.length - (intOf i).toNat)
      case atStart => exact ⟨0, by omega, rfl, hb, hbel, World.grownBy.refl _ _⟩
      case round =>
        clear hb hbel
        obtain ⟨j, hj, rfl, hb, hbel, hgr⟩ := hrel
        by_cases hjl : j < xs.length
        · obtain ⟨ad', x, rfl, hxj, hcj⟩ := byte_at (Kd.C_below hC hbel) hjl
          have hrj := Crc.run_lt hr0 (xs.take j)
          have hxlt := x.toNat_lt
          have hstep := Lib.hid (Crc.run_take (r := r) hxj)
          clear hxj
          clear hcell
          generalize Crc.run r (xs.take j) = q at *
          go_wp2_with fail
          refine (feed_any g q x.toNat _ hrj hxlt hb).mono ?_
          rintro e w2 ⟨rfl, hb2, hgr2, hsz2⟩
          go_wp2_with fail
          go_roundw
          case rel =>
            refine ⟨j + 1, by omega, by go_num, by rw [hstep.out]; exact hb2, ?_, hgr.trans hgr2⟩
            exact hbel.grown hgr2 hbel.size (fun k hk => by cases hk; exact hg)
          case measure => simp [intOf]; omega
        · obtain rfl : j = xs.length := by omega
          rw [List.take_length] at hb
          rw [← hrows.out] at hb
          go_wp2_with fail
          go_roundw
          case rel => exact ⟨k + 1, by omega, by go_num, hb, hbel⟩
          case measure => simp [intOf]; omega
    · obtain rfl : k = n := by omega
      rw [List.take_of_length_le (by omega)] at hb hr0
      have hc0 : wr.cell? ⟨g, 0, none⟩ = some (.int .u32 (Crc.run (Crc.turn s) xss.flatten : Nat)) := by rw [blk_cell hb]; rfl
      have hnot := turn_spelt _ hr0
      go_wp2
      go_ret
      exact ⟨rfl, hbel⟩
end Go.Proofs.Ytkoofoglcheonaa
