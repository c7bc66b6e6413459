/- Two logs that lie apart: one let go of, one set on another base; what they tell. -/
import Derived.Test.YtgpnfgjmdehfdaaComP
namespace Go.Proofs.Ytgpnfgjmdehfdaa
set_option linter.unusedVariables false
set_option linter.unusedSimpArgs false
open Go.RowKit Go.Proofs.YtgpnfgjmdehfdaaW.PrintWords

section
variable {W w : World} {p q : Nat} {m n : LM}
theorem compact_two (k : Int) (h : Two W w p m q n) (hin : In W w) (hf : Fair m.i m.es.length) (hg : m.g.len ≤ 1000000000) (hs : entsSmall m.es) :
    Calls Try.prog 20 #[.pointer (some ⟨p, 0, none⟩), .int .i64 k] w fun e w' => e = .returned (.bool (compactOf m k).2) ∧ Two W w' p (compactOf m k).1 q n ∧ In W w' := by
  obtain ⟨okp, okq, h⟩ := h
  exact (compact_any k h.lp hf hg hs).mono fun e w' ⟨he, hL, hk, hb⟩ => ⟨he, h.turn hin hL hk hb⟩
theorem install_two {b : Bas} {cs : List Value} (h : Two W w p m q n) (hin : In W w) (hB : basK.K w b cs) (hf : Fair m.i m.es.length) (hg : b.g.len ≤ 1000000000) :
    Calls Try.prog 21 #[.pointer (some ⟨p, 0, none⟩), .agg cs.toArray] w fun e w' => e = .returned (.bool (installOf m b).2) ∧ Two W w' p (installOf m b).1 q n ∧ In W w' := by
  obtain ⟨okp, okq, h⟩ := h
  exact (install_any h.lp hB hf hg).mono fun e w' ⟨he, hL, hk, hb⟩ => ⟨he, h.turn hin hL hk hb⟩
theorem config_two (h : Two W w p m q n) (hf : Fair m.i m.es.length) (hg : m.g.len ≤ 1000000000) (hs : entsSmall m.es) :
    Calls Try.prog 16 #[.pointer (some ⟨p, 0, none⟩)] w fun e w' => ∃ ds, e = .returned (.tuple #[.agg ds.toArray, .int .i64 (forceN m m.es.length).2]) ∧ cfgK.M w' w.heap.size (fun _ => True) (forceN m m.es.length).1 ds ∧ In w w' := by
  obtain ⟨okp, okq, h⟩ := h
  exact config_any h.lp hf hg hs
theorem base_two (h : Two W w p m q n) (hg : m.g.len ≤ 1000000000) :
    Calls Try.prog 24 #[.pointer (some ⟨p, 0, none⟩)] w fun e w' => ∃ v0 v1 v2 v3, e = .returned (.agg #[.int .i64 m.i, .int .i64 m.t, v0, v1, v2, v3]) ∧ In w w' := by
  obtain ⟨okp, okq, h⟩ := h
  refine (base_any h.lp hg).mono fun e w' ⟨ds, he, hM, hi⟩ => ?_
  obtain ⟨v0, v1, v2, v3, rfl, _⟩ := basK_openM hM
  exact ⟨v0, v1, v2, v3, he, hi⟩
end
theorem forceN_len {m : LM} (hg : m.g.len ≤ 1000000000) (hs : entsSmall m.es) (n : Nat) : (forceN m n).1.len ≤ 1000000000 := by
  induction n with
  | zero => exact hg
  | succ n ih =>
    rw [forceN]
    split
    · rw [List.getD_eq_getElem?_getD]
      cases hx : m.es[n]? with
      | none => simp [zEnt, zCfg, Cfg.len]
      | some x => exact (hs.2 n x hx).2
    · exact ih
theorem compact_near {m : LM} (k : Int) (hi : m.i ≤ 1073741824) (hi0 : 0 ≤ m.i) (hl : m.es.length ≤ 400) (hg : m.g.len ≤ 1000000000) (hs : entsSmall m.es) :
    0 ≤ (compactOf m k).1.i ∧ (compactOf m k).1.i ≤ 1073742224 ∧ (compactOf m k).1.es.length ≤ 400 ∧ (compactOf m k).1.g.len ≤ 1000000000 ∧ entsSmall (compactOf m k).1.es := by
  unfold compactOf LM.last
  by_cases h : m.i ≤ k ∧ k ≤ m.i + m.es.length
  · rw [if_pos h]
    refine ⟨by simp only; omega, by simp only; omega, by simp only [List.length_drop]; omega, forceN_len hg hs _, by simp only [List.length_drop]; have := hs.1; omega, fun j e he => ?_⟩
    simp only [List.getElem?_drop] at he
    exact hs.2 _ e he
  · rw [if_neg h]
    exact ⟨hi0, by simp only; omega, hl, hg, hs⟩
end Go.Proofs.Ytgpnfgjmdehfdaa
