/- The walks of package frame, third part: head. -/
import Derived.Test.YtkoofoglcheonaaFrB
namespace Go.Proofs.Ytkoofoglcheonaa
set_option linter.unusedVariables false
set_option linter.unusedSimpArgs false
open Go.RowKit Go.Proofs.YtkoofoglcheonaaW.PrintWords

theorem kind_byte (k : Int) (h0 : 0 ≤ k) (h1 : k ≤ 255) : Value.int .u8 (IntKind.u8.wrap k) = encB (UInt8.ofNat k.toNat) := by
  unfold encB
  rw [Frm.toNat_of, IntKind.wrap_u8]
  congr 1
  omega
theorem one_lit (W : World) (x : UInt8) (v : Value) (hv : v = encB x) : byte.C (W.alloc (.cells #[v] 5)) (some ⟨W.heap.size, 0, none⟩) 1 [x] := by
  subst hv
  exact byte_lit W [x] (by simp)
theorem Mine.at_ {W w1 w w2 : World} {v : Value} {xs : List UInt8} (h : Mine W w v xs) (hb : In w1 W) (h2 : In w w2) : byte.R 5 w2 w1.heap.size (fun _ => True) v xs := (h.lower hb).below h2
set_option maxRecDepth 100000 in
set_option maxHeartbeats 800000 in
theorem head_any {f : Fr} {cs : List Value} {w : World} (hK : frK.K w f cs) (h0 : 0 ≤ f.k) (h1 : f.k ≤ 255) (hl : f.d.length < 4294967296) :
    Calls Try.prog 42 #[.agg cs.toArray] w fun e w' => ∃ v, e = .returned v ∧ Mine w w' v (Frm.head f) ∧ In w w' := by
  obtain ⟨A, c, rfl, hc, hC⟩ := frK_open hK
  have hmx := (byte_len hC).2
  have hin := In.alloc (In.refl w) (.cells #[.int .i64 f.k, .slice A f.d.length c] 44)
  have hb := blk_new w (.cells #[.int .i64 f.k, .slice A f.d.length c] 44)
  have c0 := In.cells (v := .int .i64 f.k) (blk_cell hb 0)
  have c1 := In.cells (v := .slice A f.d.length c) (blk_cell hb 1)
  have hw : IntKind.u32.wrap (f.d.length : Int) = (f.d.length : Int) := wrap_u32_nat _ hl
  have HKB := Lib.hid (kind_byte f.k h0 h1)
  clear hb hC hK
  go_enter Try.func42, Try.ntmps42
  go_upto_region 1 with (fail)
  generalize w.alloc (.cells #[.int .i64 f.k, .slice A f.d.length c] 44) = w1 at *
  go_region_held3 (fun w' => In w1 w') (first | exact In.drew (In.refl _) | exact In.next (by assumption) (by assumption) | exact In.alloc (by assumption) _ | assumption)
    (first
      | (go_at_call 44; (with_reducible refine Calls.mono (four_any f.d.length _ (by omega)) ?_); rintro e wa ⟨v, rfl, hv, hia⟩; obtain ⟨A0, c0', rfl, hl0, hC0⟩ := hv.reads)
      | ((have tok := hC0; clear tok; refine Kd.R_append_rows_step byte (Rr := fun x cs => cs = [encB x]) (w0 := w1) w1.heap.size (by rfl) (.tmp 7) (.tmp 11) 34 5 (.int .u8 0) 1 (by rfl) Try.underlying34 info5 (by rfl) (by decide) (by decide) _ (Frm.four f.d.length) [UInt8.ofNat f.k.toNat] _ 1 1 (fun _ => True) (fun _ => False) (by rfl) (by rfl) (hv.at_ (by first | assumption | exact In.drew (In.refl _) | exact In.alloc (In.drew (In.refl _)) _) (by first | exact In.alloc (In.refl _) _ | exact In.refl _)) (by first | exact one_lit _ _ _ HKB.out | exact Kd.C_below (Kd.C_below (one_lit _ _ _ HKB.out) (In.drew (In.refl _)).out) hia.out) (fun _ _ h => h) (fun _ h => h.elim) (fun _ _ => trivial) (In.out (by assumption)) (In.size (by assumption)) (by rw [Frm.four_length]; omega) ?_); intro v2 w2 hR hb hg hat))
  all_goals
    go_wp2_with fail
    obtain ⟨A2, c2, rfl⟩ := Kd.R_slice hR
    go_ret
    exact ⟨_, rfl, (show Mine w1 w2 _ (Frm.head f) from hR).lower hin, In.trans hin hb⟩
end Go.Proofs.Ytkoofoglcheonaa
