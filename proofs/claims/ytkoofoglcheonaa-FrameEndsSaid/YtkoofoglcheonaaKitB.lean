/- A part of the proofs over package sum and its reference: the walks, or what they lean on. -/
import Derived.Test.YtkoofoglcheonaaKitA
namespace Go.Proofs.Ytkoofoglcheonaa
set_option linter.unusedVariables false
set_option linter.unusedSimpArgs false
open Go.RowKit Go.Proofs.YtkoofoglcheonaaW.PrintWords

/-- The marks behind what is lent. -/
def marks : List UInt8 := (List.range 12).map (markB 1)
theorem marks_length : marks.length = 12 := rfl
theorem marks_take_succ {k : Nat} (hk : k < 12) : marks.take (k + 1) = marks.take k ++ [markB 1 k] := by
  rw [List.take_add_one]
  unfold marks
  rw [List.getElem?_map, List.getElem?_range hk]
  rfl
/-- A slice that was lent: so many bytes, the marks behind them. -/
def Lent (w : World) (base : Nat) (v : Value) (xs : List UInt8) : Prop :=
  ∃ g c, v = .slice (some ⟨g, 0, none⟩) xs.length c ∧ w.ownsRow base 5 1 (.slice (some ⟨g, 0, none⟩) (xs.length + 12) c) (xs.length + 12) (encs encB (xs ++ marks))

set_option maxHeartbeats 800000 in
theorem lentBytes_any (A : Option Addr) (c : Nat) (xs : List UInt8) (w : World) (hA : byte.C w A xs.length xs) (hsm : xs.length ≤ 100000000) :
    Calls Try.prog 24 #[.slice A xs.length c] w fun e w' => ∃ v, e = .returned v ∧ Lent w' w.heap.size v xs ∧ Below w.heap.size w w' := by
  obtain ⟨i0, hi, hz0, hz1, hz2⟩ := info_parts info5
  have HR := Lib.hid (byte_reads hA)
  go_enter Try.func24, Try.ntmps24
  go_wp2_with (at_make; refine wpList_make_own _ rfl _ _ 34 rfl w.heap.size 5 i0 (.int .u8 0) 1 Try.underlying34 hi hz0 hz1 .i64 .i64 _ (xs.length + 12) rfl rfl (by omega) (by rw [hz2]; omega) (by unfold maxLen; omega) (Nat.le_refl _) ?_)
  intro w1 ho1 hg1
  have hb1 := (Below.refl w.heap.size w).grown hg1 (Nat.le_refl _) (by simp)
  have HO1 := Lib.hid ho1
  clear ho1
  have HR1 := Lib.hid (HR.out.below hb1)
  go_wp2_with (at_builtin; refine print_append_row_of encB (0 : UInt8) w.heap.size rfl (.tmp 9) (.tmp 10) 34 5 (.int .u8 0) 1 rfl Try.underlying34 info5 rfl (by decide) (fun _ => rfl) _ [] xs A xs.length c rfl rfl HO1.out HR1.out hb1 hb1.size (by simp; omega) ?_)
  intro v2 w2 ho2 hb2 hg2 hat2
  have HO2 := Lib.hid ho2
  clear ho2 hb1 hat2 hg2 hg1 HO1 HR1
  go_wp2_with fail
  go_loopw [3, 4] (fun v i wr => ∃ k : Nat, k ≤ 12 ∧ i = .int .i64 k ∧ wr.ownsRow w.heap.size 5 1 v (xs ++ marks.take k).length (encs encB (xs ++ marks.take k)) ∧ Below w.heap.size w wr) (fun _ i _ => 12 - (intOf i).toNat)
  case atStart => exact ⟨0, by omega, rfl, by simpa using HO2.out, hb2⟩
  case round =>
    clear HO2 hb2
    obtain ⟨k, hk, rfl, ho, hbel⟩ := hrel
    have HO := Lib.hid ho
    clear ho
    have hlm : (marks.take k).length = k := by rw [List.length_take, marks_length]; omega
    by_cases hlt : k < 12
    · have hm := Lib.hid (marks_take_succ hlt)
      generalize marks.take k = ms at *
      have HLM := Lib.hid hlm
      clear hlm HR hA hi hz0 hz1 hz2
      go_wp2_with fail
      refine (markByte_any 1 k _ (by omega) (by omega)).mono ?_
      rintro e w1 ⟨rfl, rfl⟩
      go_wp2_with (at_builtin; refine print_append_of encB w.heap.size rfl (.tmp 16) (.tmp 19) 34 5 (.int .u8 0) 1 rfl Try.underlying34 info5 rfl (by decide) _ (xs ++ ms) (markB 1 k) rfl rfl rfl HO.out hbel hbel.size (by rw [List.length_append, HLM.out]; omega) ?_)
      intro v3 w3 ho3 hb3 hg3 hat3
      go_wp2_with fail
      go_roundw
      case rel =>
        refine ⟨k + 1, by omega, by go_num, ?_, hb3⟩
        rw [hm.out, ← List.append_assoc]
        simpa using ho3
      case measure => simp [intOf]; omega
    · obtain rfl : k = 12 := by omega
      rw [List.take_of_length_le (by rw [marks_length]; omega), List.length_append, marks_length] at HO
      obtain ⟨g, cap, rfl, hgb, hglt⟩ := HO.out.form (by omega)
      have hcap := own_le HO.out
      go_wp2_with fail
      go_ret
      exact ⟨_, rfl, ⟨g, cap, rfl, HO.out⟩, hbel⟩
end Go.Proofs.Ytkoofoglcheonaa
