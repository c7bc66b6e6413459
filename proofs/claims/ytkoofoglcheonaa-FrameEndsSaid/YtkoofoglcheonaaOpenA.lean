/- A part of the proofs over package sum and its reference: the walks, or what they lean on. -/
import Derived.Test.YtkoofoglcheonaaOpen
import Derived.Test.YtkoofoglcheonaaMem
namespace Go.Proofs.Ytkoofoglcheonaa
set_option linter.unusedVariables false
set_option linter.unusedSimpArgs false
open Go.RowKit Go.Proofs.YtkoofoglcheonaaW.PrintWords

theorem opens_byte : Opens Try.prog 5 byte (fun _ => True) := by
  intro H enc w held fuel cs x h _
  obtain ⟨n, rfl, _, hw⟩ := DataW.trod_int Try.underlying5 h
  have hb : 0 ≤ n ∧ n ≤ 255 := by
    simp [Lit.wf, IntKind.min, IntKind.max, IntKind.bits, IntKind.signed] at hw
    omega
  refine ⟨UInt8.ofNat n.toNat, ?_, trivial⟩
  have : ((UInt8.ofNat n.toNat).toNat : Int) = n := by
    rw [UInt8.toNat_ofNat']
    omega
  show [Value.int .u8 n] = [encB _]
  unfold encB
  rw [this]
theorem opens_bytes : Opens Try.prog 34 bytes (fun xs => xs.length * Try.prog.bytesOf 5 ≤ reachBytes ∧ ∀ x ∈ xs, True) :=
  opens_slice Try.underlying34 (by kernel_rfl) opens_byte
def rows : Kd (List (List UInt8)) := Kd.slice 34 bytes
theorem opens_rows : Opens Try.prog 22 rows (fun xss => xss.length * Try.prog.bytesOf 34 ≤ reachBytes ∧ ∀ xs ∈ xss, xs.length * Try.prog.bytesOf 5 ≤ reachBytes ∧ ∀ x ∈ xs, True) :=
  opens_slice Try.underlying22 (by kernel_rfl) opens_bytes
theorem bytesOf34 : Try.prog.bytesOf 34 = 24 := by kernel_rfl
theorem bytesOf5 : Try.prog.bytesOf 5 = 1 := by kernel_rfl
end Go.Proofs.Ytkoofoglcheonaa
