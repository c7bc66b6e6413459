/- Frames, opened as arguments. -/
import Derived.Test.YtkoofoglcheonaaOpenA
import Derived.Test.YtkoofoglcheonaaFrB
namespace Go.Proofs.Ytkoofoglcheonaa
set_option linter.unusedVariables false
set_option linter.unusedSimpArgs false
open Go.RowKit Go.Proofs.YtkoofoglcheonaaW.PrintWords

theorem bytesOf44 : Try.prog.bytesOf 44 = 32 := by kernel_rfl
theorem opens_i64 : Opens Try.prog 3 (Kd.int .i64) (fun n => (Lit.int .i64 n).wf = true) := opens_int Try.underlying3
theorem Opens.imp {P : Program} {t : TypeId} {α : Type} {d : Kd α} {sm sm' : α → Prop} (h : Opens P t d sm) (hi : ∀ x, sm x → sm' x) : Opens P t d sm' := fun H enc w held fuel cs x hx hw => by
  obtain ⟨a, ha, hs⟩ := h H enc w held fuel cs x hx hw
  exact ⟨a, ha, hi a hs⟩
theorem opens_fr : Opens Try.prog 44 frK (fun f => f.d.length ≤ 200000000000000) := by
  refine Opens.imp (opens_iso (fun x : Fr => (x.k, x.d)) (fun y => ⟨y.1, y.2⟩) (fun x => rfl) (opens_struct Try.underlying44 (by kernel_rfl)
    (opensAt_cons rfl (by kernel_rfl) opens_i64 (opensAt_one rfl (by kernel_rfl) opens_bytes)))) ?_
  rintro x ⟨_, h1, _⟩
  rw [bytesOf5] at h1
  unfold reachBytes at h1
  dsimp only at h1
  omega
theorem opens_frs : Opens Try.prog 41 (Kd.slice 44 frK) (fun l => l.length ≤ 200000000000000 ∧ ∀ f ∈ l, f.d.length ≤ 200000000000000) := by
  refine Opens.imp (opens_slice Try.underlying41 (by kernel_rfl) opens_fr) ?_
  rintro xs ⟨h1, h2⟩
  rw [bytesOf44] at h1
  unfold reachBytes at h1
  exact ⟨by omega, h2⟩
end Go.Proofs.Ytkoofoglcheonaa
