/- What is let go changes no term, no entry behind, and not the configuration in force: the plain law of LogCompact. -/
import Derived.Test.YtgpnfgjmdehfdaaPickB
namespace Go.Proofs.Ytgpnfgjmdehfdaa
set_option linter.unusedVariables false
set_option linter.unusedSimpArgs false
open Go.RowKit Go.Proofs.YtgpnfgjmdehfdaaW.PrintWords

theorem force_drop (m : LM) (j n : Nat) (i t : Int) : (forceN ⟨i, t, (forceN m j).1, m.es.drop j⟩ n).1 = (forceN m (j + n)).1 := by
  induction n with
  | zero => rfl
  | succ n ih =>
    have h1 : (m.es.drop j).getD n zEnt = m.es.getD (j + n) zEnt := by rw [List.getD_eq_getElem?_getD, List.getD_eq_getElem?_getD, List.getElem?_drop]
    rw [forceN, ← Nat.add_assoc, forceN]
    simp only [h1]
    split
    · rfl
    · exact ih
/-- What letting go leaves. -/
structure Gone (m1 m : LM) (index : Int) (ok : Bool) : Prop where
  ok_ : ok = (decide (m.i ≤ index) && decide (index ≤ m.last))
  last_ : m1.last = m.last
  force_ : (forceN m1 m1.es.length).1 = (forceN m m.es.length).1
  base_ : ok = true → m1.i = index
  lo : m.i ≤ m1.i
  hi : m1.i ≤ m.last
  term_ : ∀ z, m1.i ≤ z → z ≤ m1.last → termOf m1.i m1.t m1.es z = termOf m.i m.t m.es z
  at_ : ∀ z, m1.i < z → atOf m1 z = atOf m z
theorem term_base {m : LM} {k : Int} (h1 : m.i ≤ k) (h2 : k ≤ m.last) : ∃ t, termOf m.i m.t m.es k = (t, true) := by
  unfold LM.last at h2
  unfold termOf
  by_cases h : m.i < k
  · rw [if_pos (by omega)]; exact ⟨_, rfl⟩
  · rw [if_neg (by omega), if_pos (by omega)]; exact ⟨_, rfl⟩
theorem compact_gone (m : LM) (index : Int) : Gone (compactOf m index).1 m index (compactOf m index).2 := by
  unfold compactOf
  by_cases h : m.i ≤ index ∧ index ≤ m.last
  · rw [if_pos h]
    obtain ⟨h1, h2⟩ := h
    have h2' := h2
    unfold LM.last at h2'
    obtain ⟨j, hj⟩ := Int.eq_ofNat_of_zero_le (show 0 ≤ index - m.i by omega)
    have hjl : j ≤ m.es.length := by omega
    rw [hj, Int.toNat_natCast]
    refine ⟨by rw [decide_eq_true h1, decide_eq_true h2]; rfl, ?_, ?_, fun _ => rfl, h1, h2, ?_, ?_⟩
    · simp only [LM.last, List.length_drop]; omega
    · simp only [List.length_drop]
      rw [force_drop, show j + (m.es.length - j) = m.es.length by omega]
    · intro z hz1 hz2
      simp only [LM.last, List.length_drop] at hz1 hz2 ⊢
      obtain ⟨t, ht⟩ := term_base h1 h2
      rw [ht]
      unfold termOf
      simp only [List.length_drop]
      by_cases hz : z = index
      · subst hz
        rw [if_neg (by omega), if_pos rfl]
        unfold termOf at ht
        exact ht.symm
      · rw [if_pos (by omega), if_pos (by omega)]
        obtain ⟨q, hq⟩ := Int.eq_ofNat_of_zero_le (show 0 ≤ z - index - 1 by omega)
        rw [hq, show z - m.i - 1 = ((j + q : Nat) : Int) by omega, Int.toNat_natCast, Int.toNat_natCast, List.getD_eq_getElem?_getD, List.getD_eq_getElem?_getD, List.getElem?_drop]
    · intro z hz
      simp only at hz
      unfold atOf
      simp only [List.length_drop]
      by_cases hzl : z ≤ m.i + m.es.length
      · rw [if_pos (by omega), if_pos (by omega)]
        obtain ⟨q, hq⟩ := Int.eq_ofNat_of_zero_le (show 0 ≤ z - index - 1 by omega)
        rw [hq, show z - m.i - 1 = ((j + q : Nat) : Int) by omega, Int.toNat_natCast, Int.toNat_natCast, List.getD_eq_getElem?_getD, List.getD_eq_getElem?_getD, List.getElem?_drop]
      · rw [if_neg (by omega), if_neg (by omega)]
  · rw [if_neg h]
    refine ⟨?_, rfl, rfl, (fun h => by cases h), Int.le_refl _, (show m.i ≤ m.last by unfold LM.last; omega), fun _ _ _ => rfl, fun _ _ => rfl⟩
    by_cases h1 : m.i ≤ index
    · rw [decide_eq_false (show ¬ index ≤ m.last by omega), Bool.and_false]
    · rw [decide_eq_false h1]; rfl
/-- A base from elsewhere, ahead of the log's own end or not. -/
theorem install_ends {m : LM} {k t : Int} {b : Bool} (hk : m.i < k) (ht : termOf m.i m.t m.es k = (t, b)) (p : Int) (g : Cfg) (hp : p = 0 ∨ p = 1) (hr : -9223372036854775808 ≤ t ∧ t ≤ 9223372036854775807) :
    ∃ es, installOf m ⟨k, RowKit.wrap64 (t + p), g⟩ = (⟨k, RowKit.wrap64 (t + p), g, es⟩, true) ∧ k + es.length = (if b = true ∧ p = 0 then m.last else k) := by
  unfold installOf
  rw [if_neg (by simp only; omega)]
  refine ⟨_, rfl, ?_⟩
  simp only
  rw [ht]
  by_cases hb : b = true ∧ p = 0
  · obtain ⟨rfl, rfl⟩ := hb
    rw [if_pos (show (t, true) = (RowKit.wrap64 (t + 0), true) by rw [Int.add_zero, IntWalk.wrap64_in t (by omega)]), if_pos (And.intro rfl rfl)]
    have hl := termOf_le ht
    unfold LM.last
    rw [List.length_drop]
    omega
  · rw [if_neg hb, if_neg]
    · simp
    · intro he
      injection he with h1 h2
      subst h2
      rcases hp with rfl | rfl
      · exact hb ⟨rfl, rfl⟩
      · unfold RowKit.wrap64 at h1
        omega
end Go.Proofs.Ytgpnfgjmdehfdaa
