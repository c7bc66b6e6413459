/- What FrameEnds needs: frames written out, a frame that is too long. -/
import Derived.Test.YtkoofoglcheonaaTelB
namespace Go.Proofs.Ytkoofoglcheonaa
set_option linter.unusedVariables false
set_option linter.unusedSimpArgs false
open Go.RowKit Go.Proofs.YtkoofoglcheonaaW.PrintWords

theorem fr_lit {W : World} {cs : List Value} {t : TypeId} {fs : List Fr} (hlen : fs.length ≤ 1000) (h : ∀ (j : Nat) (f : Fr), fs[j]? = some f → ∃ A c, cs[j * 2]? = some (.int .i64 f.k) ∧ cs[j * 2 + 1]? = some (.slice A f.d.length c) ∧ f.d.length ≤ c ∧ byte.C W A f.d.length f.d) :
    frK.C (W.alloc (.cells cs.toArray t)) (some ⟨W.heap.size, 0, none⟩) fs.length fs := by
  refine ⟨rfl, by omega, fun _ => ⟨_, rfl, fun j p hp => ?_⟩⟩
  obtain ⟨A, c, h0, h1, hle, hC⟩ := h j p hp
  refine ⟨_, rfl, frK_mk hle (Kd.C_below hC (In.alloc (In.refl _) _).out), fun i u hu => ?_⟩
  have hb := blk_new W (.cells cs.toArray t)
  have hadd : ∀ m, (⟨W.heap.size, 0, none⟩ : Addr).add m = ⟨W.heap.size, m, none⟩ := fun m => by rw [add_plain]
  rw [hadd]
  match i, hu with
  | 0, hu =>
    have h2 := blk_cell hb (j * 2)
    rw [List.getElem?_toArray, h0] at h2
    simp at hu
    subst hu
    exact h2
  | 1, hu =>
    have h2 := blk_cell hb (j * 2 + 1)
    rw [List.getElem?_toArray, h1] at h2
    simp at hu
    subst hu
    exact h2
  | i + 2, hu => simp at hu
theorem zeros_C {W : World} {L : Nat} (hL : L ≤ 1000000) : byte.C (W.alloc (.cells (madeCells #[encB 0] L) 5)) (some ⟨W.heap.size, 0, none⟩) L (List.replicate L 0) := by
  have h := own_made_of (enc := encB) (d := (0 : UInt8)) W W.heap.size 5 L (Nat.le_refl _) (by omega)
  have h2 := byte_of_reads (own_reads_of' (d := (0 : UInt8)) (xs := List.replicate L 0) (by simpa using h))
  simpa using h2
theorem get_over {f : Fr} (h1 : 262144 < f.d.length) (h2 : f.d.length < 4294967296) : Frm.get (Frm.one f) = [] := by
  refine Frm.get_no (fun h => ?_)
  have h3 := h.1.2.1
  have h4 := Frm.num_one h2 []
  rw [List.append_nil] at h4
  omega
end Go.Proofs.Ytkoofoglcheonaa
