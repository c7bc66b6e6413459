/- This seat's structs, opened as arguments. -/
import Derived.Test.YtgpnfgjmdehfdaaOpen
import Derived.Test.YtgpnfgjmdehfdaaCountC
namespace Go.Proofs.Ytgpnfgjmdehfdaa
set_option linter.unusedVariables false
set_option linter.unusedSimpArgs false
open Go.RowKit Go.Proofs.YtgpnfgjmdehfdaaW.PrintWords

theorem bytesOf3 : Try.prog.bytesOf 3 = 8 := by kernel_rfl
theorem bytesOf5 : Try.prog.bytesOf 5 = 1 := by kernel_rfl
theorem bytesOf45 : Try.prog.bytesOf 45 = 136 := by kernel_rfl
theorem opens_i64 : Opens Try.prog 3 (Kd.int .i64) (fun n => (Lit.int .i64 n).wf = true) := opens_int Try.underlying3
theorem opens_u8 : Opens Try.prog 5 (Kd.int .u8) (fun n => (Lit.int .u8 n).wf = true) := opens_int Try.underlying5
theorem opens_kind : Opens Try.prog 42 (Kd.int .u8) (fun n => (Lit.int .u8 n).wf = true) := opens_int Try.underlying42
theorem opens_ints : Opens Try.prog 23 (Kd.slice 3 (Kd.int .i64)) (fun xs => xs.length * Try.prog.bytesOf 3 ≤ reachBytes ∧ ∀ x ∈ xs, (Lit.int .i64 x).wf = true) := opens_slice Try.underlying23 (by kernel_rfl) opens_i64
theorem opens_bys : Opens Try.prog 43 (Kd.slice 5 (Kd.int .u8)) (fun xs => xs.length * Try.prog.bytesOf 5 ≤ reachBytes ∧ ∀ x ∈ xs, (Lit.int .u8 x).wf = true) := opens_slice Try.underlying43 (by kernel_rfl) opens_u8
theorem Opens.imp {P : Program} {t : TypeId} {α : Type} {d : Kd α} {sm sm' : α → Prop} (h : Opens P t d sm) (hi : ∀ x, sm x → sm' x) : Opens P t d sm' := fun H enc w held fuel cs x hx hw => by
  obtain ⟨a, ha, hs⟩ := h H enc w held fuel cs x hx hw
  exact ⟨a, ha, hi a hs⟩
theorem opens_cfg : Opens Try.prog 25 cfgK Cfg.fits := by
  refine Opens.imp (opens_iso (fun x : Cfg => (x.v, x.o, x.l, x.w)) (fun y => ⟨y.1, y.2.1, y.2.2.1, y.2.2.2⟩) (fun x => rfl) (opens_struct Try.underlying25 (by kernel_rfl)
    (opensAt_cons rfl (by kernel_rfl) opens_ints (opensAt_cons rfl (by kernel_rfl) opens_ints (opensAt_cons rfl (by kernel_rfl) opens_ints (opensAt_one rfl (by kernel_rfl) opens_ints)))))) ?_
  rintro x ⟨⟨h1, _⟩, ⟨h2, _⟩, ⟨h3, _⟩, ⟨h4, _⟩⟩
  rw [bytesOf3] at h1 h2 h3 h4
  unfold reachBytes at h1 h2 h3 h4
  dsimp only at h1 h2 h3 h4
  exact ⟨by omega, by omega, by omega, by omega⟩
theorem opens_ent : Opens Try.prog 45 entK Ent.fits := by
  refine Opens.imp (opens_iso (fun x : Ent => (x.t, x.k, x.c, x.g)) (fun y => ⟨y.1, y.2.1, y.2.2.1, y.2.2.2⟩) (fun x => rfl) (opens_struct Try.underlying45 (by kernel_rfl)
    (opensAt_cons rfl (by kernel_rfl) opens_i64 (opensAt_cons rfl (by kernel_rfl) opens_kind (opensAt_cons rfl (by kernel_rfl) opens_bys (opensAt_one rfl (by kernel_rfl) opens_cfg)))))) ?_
  rintro x ⟨_, _, ⟨h1, _⟩, h2⟩
  rw [bytesOf5] at h1
  unfold reachBytes at h1
  dsimp only at h1
  exact ⟨by omega, h2⟩
theorem opens_ents : Opens Try.prog 22 (Kd.slice 45 entK) entsFit := by
  refine Opens.imp (opens_slice Try.underlying22 (by kernel_rfl) opens_ent) ?_
  rintro xs ⟨h1, h2⟩
  rw [bytesOf45] at h1
  unfold reachBytes at h1
  exact ⟨by omega, fun j e he => h2 e (List.mem_of_getElem? he)⟩
theorem opens_bas : Opens Try.prog 27 basK (fun x => x.g.fits) := by
  refine Opens.imp (opens_iso (fun x : Bas => (x.i, x.t, x.g)) (fun y => ⟨y.1, y.2.1, y.2.2⟩) (fun x => rfl) (opens_struct Try.underlying27 (by kernel_rfl)
    (opensAt_cons rfl (by kernel_rfl) opens_i64 (opensAt_cons rfl (by kernel_rfl) opens_i64 (opensAt_one rfl (by kernel_rfl) opens_cfg))))) ?_
  rintro x ⟨_, _, h⟩
  exact h
theorem opens_act : Opens Try.prog 29 actK Act10.fits := by
  refine Opens.imp (opens_iso (fun x : Act10 => (x.k, x.index, x.es, x.b)) (fun y => ⟨y.1, y.2.1, y.2.2.1, y.2.2.2⟩) (fun x => rfl) (opens_struct Try.underlying29 (by kernel_rfl)
    (opensAt_cons rfl (by kernel_rfl) opens_i64 (opensAt_cons rfl (by kernel_rfl) opens_i64 (opensAt_cons rfl (by kernel_rfl) opens_ents (opensAt_one rfl (by kernel_rfl) opens_bas)))))) ?_
  rintro x ⟨_, _, h1, h2⟩
  exact ⟨h1, h2⟩
end Go.Proofs.Ytgpnfgjmdehfdaa
