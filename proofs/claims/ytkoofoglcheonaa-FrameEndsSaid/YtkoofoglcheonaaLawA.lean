/- A part of the proofs over package sum and its reference: the walks, or what they lean on. -/
import Derived.Test.YtkoofoglcheonaaKitE
import Derived.Test.YtkoofoglcheonaaRefC
namespace Go.Proofs.Ytkoofoglcheonaa
set_option linter.unusedVariables false
set_option linter.unusedSimpArgs false
open Go.RowKit Go.Proofs.YtkoofoglcheonaaW.PrintWords

def digits : List UInt8 := [49, 50, 51, 52, 53, 54, 55, 56, 57]
set_option maxRecDepth 100000 in
theorem digits_sum : Crc.sum digits = 3421780262 := by decide +kernel
theorem nil_sum : Crc.sum [] = 0 := by decide +kernel
theorem index_one (w : World) : (Instr.index 35 (.agg (tabCells 256)) (.int .i64 1)).run Try.prog w = .ok (.int .u32 1996959894) w := by kernel_rfl
set_option maxRecDepth 100000 in
set_option maxHeartbeats 800000 in
theorem awake_any (w : World) : Calls Try.prog 12 #[] w fun e w' => e = .returned (.bool true) ∧ Below w.heap.size w w' := by
  have kc := fun (w : World) (C : Array Value) (n c : Nat) => Lib.run_convert_bytes_const (P := Try.prog) w 34 5 C n c Try.underlying34 Try.underlying5
  have h1 := byte_lit_marked w digits (9, 10) (by decide)
  have h2 := Lib.hid (row_one (g := w.heap.size + 1) (by simp) h1 (c := 9) (by decide))
  have h3 := Lib.hid (((Below.refl w.heap.size w).alloc (Nat.le_refl _) (.cells (encs encB digits).toArray 5 (9, 10))).alloc (by simp) (.cells #[.slice (some ⟨w.heap.size, 0, none⟩) digits.length 9] 34))
  clear h1
  have s1 := Lib.hid digits_sum
  have s2 := Lib.hid nil_sum
  go_enter Try.func12, Try.ntmps12
  go_wp2_with fail
  refine (sum_any _ 1 1 [digits] _ h2.out).mono ?_
  rintro e w1 ⟨rfl, hb1⟩
  have hb1' := below_then h3.out h3.out.size hb1
  clear hb1
  rw [show ([digits] : List (List UInt8)).flatten = digits from rfl, s1.out]
  go_wp2_with fail
  refine (sum_any none 0 0 [] _ (row_nil _ _)).mono ?_
  rintro e w2 ⟨rfl, hb2⟩
  have hb2' := below_then hb1' hb1'.size hb2
  clear hb2
  rw [show ([] : List (List UInt8)).flatten = [] from rfl, s2.out]
  go_wp2_with fail
  refine (table_any _).mono ?_
  rintro e w3 ⟨rfl, hb3⟩
  have hb3' := below_then hb2' hb2'.size hb3
  have hix := index_one w3
  go_wp2_with fail
  go_ret
  exact ⟨rfl, hb3'⟩
end Go.Proofs.Ytkoofoglcheonaa
