/- What is taken stands there: the plain law of LogTake. -/
import Derived.Test.YtgpnfgjmdehfdaaAtA
namespace Go.Proofs.Ytgpnfgjmdehfdaa
set_option linter.unusedVariables false
set_option linter.unusedSimpArgs false
open Go.RowKit Go.Proofs.YtgpnfgjmdehfdaaW.PrintWords

/-- The entry at an index. -/
def atOf (m : LM) (k : Int) : Ent × Bool := if m.i < k ∧ k ≤ m.i + m.es.length then (m.es.getD (k - m.i - 1).toNat zEnt, true) else (zEnt, false)
def LM.last (m : LM) : Int := m.i + m.es.length
theorem offAt_some {m : LM} {index : Int} {xs : List Ent} {b k : Nat} (h : offAt m index b xs = some k) : b ≤ k ∧ k < b + xs.length ∧ (∀ j, b ≤ j → j < k → ∃ x, xs[j - b]? = some x ∧ termOf m.i m.t m.es (index + j) = (x.t, true)) ∧ ∃ x, xs[k - b]? = some x ∧ termOf m.i m.t m.es (index + k) ≠ (x.t, true) := by
  induction xs generalizing b with
  | nil => simp [offAt] at h
  | cons e r ih =>
    rw [offAt] at h
    split at h
    · rename_i hm
      obtain ⟨h1, h2, h3, x, h4, h5⟩ := ih h
      refine ⟨by omega, by simp; omega, fun j hj1 hj2 => ?_, x, ?_, h5⟩
      · by_cases hjb : j = b
        · subst hjb
          exact ⟨e, by simp, hm⟩
        · obtain ⟨y, hy, ht⟩ := h3 j (by omega) hj2
          refine ⟨y, ?_, ht⟩
          rw [show j - b = (j - (b + 1)) + 1 from by omega, List.getElem?_cons_succ]
          exact hy
      · rw [show k - b = (k - (b + 1)) + 1 from by omega, List.getElem?_cons_succ]
        exact h4
    · rename_i hm
      injection h with h
      subst h
      exact ⟨by omega, by simp, fun j h1 h2 => by omega, e, by simp, hm⟩
theorem offAt_none {m : LM} {index : Int} {xs : List Ent} {b : Nat} (h : ∀ (j : Nat) (x : Ent), xs[j]? = some x → termOf m.i m.t m.es (index + (b + j : Nat)) = (x.t, true)) : offAt m index b xs = none := by
  induction xs generalizing b with
  | nil => rfl
  | cons e r ih =>
    have h0 := h 0 e (by simp)
    rw [offAt, if_pos (by simpa using h0)]
    exact ih (fun j x hx => by
      have := h (j + 1) x (by simpa using hx)
      rwa [show b + (j + 1) = b + 1 + j from by omega] at this)
/-- What taking comes to: refused; nothing new; or put from place k of the row on. -/
theorem take_ways (m : LM) (index : Int) (xs : List Ent) :
    ((index ≤ m.i ∨ m.last + 1 < index) ∧ takeOf m index xs = (m, 0, false)) ∨
    (m.i < index ∧ index ≤ m.last + 1) ∧ (takeOf m index xs = (m, 0, true) ∨
      ∃ k h : Nat, k < xs.length ∧ (h : Int) = index + k - m.i - 1 ∧ h ≤ m.es.length ∧ (∀ j, j < k → ∃ x, xs[j]? = some x ∧ termOf m.i m.t m.es (index + j) = (x.t, true)) ∧ takeOf m index xs = (m.cut h (xs.drop k), index + k, true)) := by
  unfold takeOf LM.last
  by_cases h1 : index ≤ m.i ∨ m.i + m.es.length + 1 < index
  · exact .inl ⟨h1, if_pos h1⟩
  · refine .inr ⟨by omega, ?_⟩
    rw [if_neg h1]
    cases ho : offAt m index 0 xs with
    | none => exact .inl rfl
    | some k =>
      obtain ⟨_, hk, hj, _⟩ := offAt_some ho
      obtain ⟨h, hh⟩ := Int.eq_ofNat_of_zero_le (show 0 ≤ index + k - m.i - 1 by omega)
      refine .inr ⟨k, h, by omega, hh.symm, ?_, fun j hjk => by simpa using hj j (by omega) hjk, ?_⟩
      · cases k with
        | zero => omega
        | succ k =>
          obtain ⟨x, _, ht⟩ := hj k (by omega) (by omega)
          have := termOf_le ht
          omega
      · simp only
        rw [hh, Int.toNat_natCast]
theorem cut_last {m : LM} {h : Nat} {ys : List Ent} (hh : h ≤ m.es.length) : (m.cut h ys).last = m.i + h + ys.length := by
  simp [LM.cut, LM.last]; omega
theorem cut_at {m : LM} {h : Nat} {ys : List Ent} (hh : h ≤ m.es.length) {i : Int} (hi : i ≤ m.i + h) : atOf (m.cut h ys) i = atOf m i := by
  unfold atOf LM.cut
  simp only [List.length_append, List.length_take]
  by_cases h1 : m.i < i
  · rw [if_pos (by omega), if_pos (by omega)]
    obtain ⟨j, hj⟩ := Int.eq_ofNat_of_zero_le (show 0 ≤ i - m.i - 1 by omega)
    rw [hj, Int.toNat_natCast, List.getD_eq_getElem?_getD, List.getD_eq_getElem?_getD, List.getElem?_append_left (by rw [List.length_take]; omega), List.getElem?_take, if_pos (by omega)]
  · rw [if_neg (by omega), if_neg (by omega)]
theorem termOf_in {i t : Int} {es : List Ent} {k : Int} {j : Nat} {x : Ent} (hk : k = i + 1 + j) (hx : es[j]? = some x) : termOf i t es k = (x.t, true) := by
  have hjl : j < es.length := (List.getElem?_eq_some_iff.1 hx).1
  unfold termOf
  rw [if_pos (by omega), show k - i - 1 = (j : Int) by omega, Int.toNat_natCast, List.getD_eq_getElem?_getD, hx]
  rfl
/-- The terms behind a cut are those that were put. -/
theorem cut_term {m : LM} {index : Int} {xs : List Ent} {k h : Nat} (hk : k < xs.length) (hh : (h : Int) = index + k - m.i - 1) (hle : h ≤ m.es.length) (hi : m.i < index)
    (hj : ∀ j, j < k → ∃ x, xs[j]? = some x ∧ termOf m.i m.t m.es (index + j) = (x.t, true)) {j : Nat} {x : Ent} (hx : xs[j]? = some x) :
    termOf m.i m.t (m.cut h (xs.drop k)).es (index + j) = (x.t, true) := by
  by_cases hjk : j < k
  · obtain ⟨y, hy, ht⟩ := hj j hjk
    rw [hx] at hy
    obtain rfl := Option.some.inj hy
    obtain ⟨q, hq⟩ := Int.eq_ofNat_of_zero_le (show 0 ≤ index + j - m.i - 1 by omega)
    have hql : q < m.es.length := by omega
    have h2 := termOf_in (t := m.t) (es := m.es) (show index + j = m.i + 1 + q by omega) (List.getElem?_eq_getElem hql)
    rw [ht] at h2
    rw [h2]
    refine termOf_in (j := q) (by omega) ?_
    simp only [LM.cut]
    rw [List.getElem?_append_left (by rw [List.length_take]; omega), List.getElem?_take, if_pos (by omega)]
    exact List.getElem?_eq_getElem hql
  · refine termOf_in (j := h + (j - k)) (by omega) ?_
    simp only [LM.cut]
    rw [List.getElem?_append_right (by rw [List.length_take]; omega), List.length_take, Nat.min_eq_left hle, List.getElem?_drop]
    rw [show k + (h + (j - k) - h) = j by omega]
    exact hx
/-- Taken once more, nothing is new. -/
theorem take_again {m : LM} {index : Int} {xs : List Ent} {k h : Nat} (hk : k < xs.length) (hh : (h : Int) = index + k - m.i - 1) (hle : h ≤ m.es.length) (hi : m.i < index)
    (hj : ∀ j, j < k → ∃ x, xs[j]? = some x ∧ termOf m.i m.t m.es (index + j) = (x.t, true)) :
    takeOf (m.cut h (xs.drop k)) index xs = (m.cut h (xs.drop k), 0, true) := by
  have hl := cut_last (m := m) (ys := xs.drop k) hle
  unfold LM.last at hl
  rw [List.length_drop] at hl
  unfold takeOf
  rw [if_neg (by rw [hl]; simp only [LM.cut]; omega), offAt_none (fun j x hx => ?_)]
  rw [Nat.zero_add]
  exact cut_term hk hh hle hi hj hx
end Go.Proofs.Ytgpnfgjmdehfdaa
