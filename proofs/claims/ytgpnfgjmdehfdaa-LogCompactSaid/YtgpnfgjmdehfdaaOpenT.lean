/- Entries opened as arguments, their terms within int. -/
import Derived.Test.YtgpnfgjmdehfdaaOpenA
namespace Go.Proofs.Ytgpnfgjmdehfdaa
set_option linter.unusedVariables false
set_option linter.unusedSimpArgs false
open Go.RowKit Go.Proofs.YtgpnfgjmdehfdaaW.PrintWords

theorem wf_i64 {t : Int} (h : (Lit.int .i64 t).wf = true) : -9223372036854775808 ≤ t ∧ t ≤ 9223372036854775807 := by
  simp [Lit.wf, IntKind.min, IntKind.max, IntKind.bits, IntKind.signed] at h
  omega
theorem opens_entT : Opens Try.prog 45 entK (fun e => e.fits ∧ -9223372036854775808 ≤ e.t ∧ e.t ≤ 9223372036854775807) := by
  refine Opens.imp (opens_iso (fun x : Ent => (x.t, x.k, x.c, x.g)) (fun y => ⟨y.1, y.2.1, y.2.2.1, y.2.2.2⟩) (fun x => rfl) (opens_struct Try.underlying45 (by kernel_rfl)
    (opensAt_cons rfl (by kernel_rfl) opens_i64 (opensAt_cons rfl (by kernel_rfl) opens_kind (opensAt_cons rfl (by kernel_rfl) opens_bys (opensAt_one rfl (by kernel_rfl) opens_cfg)))))) ?_
  rintro x ⟨ht, _, ⟨h1, _⟩, h2⟩
  rw [bytesOf5] at h1
  unfold reachBytes at h1
  dsimp only at h1 ht
  exact ⟨⟨by omega, h2⟩, wf_i64 ht⟩
theorem opens_entsT : Opens Try.prog 22 (Kd.slice 45 entK) (fun xs => entsFit xs ∧ ∀ (j : Nat) (e : Ent), xs[j]? = some e → -9223372036854775808 ≤ e.t ∧ e.t ≤ 9223372036854775807) := by
  refine Opens.imp (opens_slice Try.underlying22 (by kernel_rfl) opens_entT) ?_
  rintro xs ⟨h1, h2⟩
  rw [bytesOf45] at h1
  unfold reachBytes at h1
  exact ⟨⟨by omega, fun j e he => (h2 e (List.mem_of_getElem? he)).1⟩, fun j e he => (h2 e (List.mem_of_getElem? he)).2⟩
end Go.Proofs.Ytgpnfgjmdehfdaa
