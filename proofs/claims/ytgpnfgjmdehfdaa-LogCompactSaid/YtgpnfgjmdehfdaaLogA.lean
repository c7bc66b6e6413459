/- A log's methods that only read: there, Last, place, Term. -/
import Derived.Test.YtgpnfgjmdehfdaaNoLog
namespace Go.Proofs.Ytgpnfgjmdehfdaa
set_option linter.unusedVariables false
set_option linter.unusedSimpArgs false
open Go.RowKit Go.Proofs.YtgpnfgjmdehfdaaW.PrintWords

/-- What is seen of a log at block p: its base's index and term, that it is made, its entries' slice. -/
structure Sees (W : World) (p : Nat) (i t : Int) (A : Option Addr) (n c : Nat) : Prop where
  c0 : W.cell? ⟨p, 0, none⟩ = some (.int .i64 i)
  c1 : W.cell? ⟨p, 1, none⟩ = some (.int .i64 t)
  c6 : W.cell? ⟨p, 6, none⟩ = some (.bool true)
  c7 : W.cell? ⟨p, 7, none⟩ = some (.slice A n c)
theorem Sees.in_ {W w : World} {p : Nat} {i t : Int} {A : Option Addr} {n c : Nat} (h : Sees W p i t A n c) (hb : In W w) : Sees w p i t A n c := ⟨In.cell h.c0 hb, In.cell h.c1 hb, In.cell h.c6 hb, In.cell h.c7 hb⟩
theorem there_yes {p : Nat} {w : World} (h : w.cell? ⟨p, 6, none⟩ = some (.bool true)) : Calls Try.prog 52 #[.pointer (some ⟨p, 0, none⟩)] w fun e w' => e = .returned (.bool true) ∧ w = w' := by
  go_enter Try.func52, Try.ntmps52
  go_wp2_with fail
  go_ret
  exact ⟨rfl, rfl⟩
/-- Bounds that keep sums within int. -/
def Fair (i : Int) (n : Nat) : Prop := 0 ≤ i ∧ i ≤ 1000000000000 ∧ n ≤ 1000000000
set_option maxHeartbeats 400000 in
theorem last_yes {p : Nat} {i t : Int} {A : Option Addr} {n c : Nat} {w : World} (h : Sees w p i t A n c) (hf : Fair i n) :
    Calls Try.prog 19 #[.pointer (some ⟨p, 0, none⟩)] w fun e w' => e = .returned (.int .i64 (i + n)) ∧ Drawn0 w w' := by
  obtain ⟨c0, c1, c6, c7⟩ := h
  obtain ⟨f0, f1, f2⟩ := hf
  have hw : IntKind.i64.wrap (i + (n : Int)) = i + (n : Int) := IntWalk.i64_in _ (by omega)
  go_enter Try.func19, Try.ntmps19
  go_wp2_with fail
  refine (there_yes c6).mono ?_
  rintro e w1 ⟨rfl, rfl⟩
  go_wp2_with fail
  go_quiet (fail)
  go_wp2_with fail
  go_ret
  exact ⟨rfl, ⟨_, rfl⟩⟩
/-- Where an index lies among the entries. -/
def placeOf (i : Int) (n : Nat) (k : Int) : Int × Bool := if k ≤ i ∨ i + n < k then (0, false) else (k - i - 1, true)
set_option maxHeartbeats 400000 in
theorem place_yes {p : Nat} {i t : Int} {A : Option Addr} {n c : Nat} {w : World} (k : Int) (h : Sees w p i t A n c) (hf : Fair i n) :
    Calls Try.prog 54 #[.pointer (some ⟨p, 0, none⟩), .int .i64 k] w fun e w' => e = .returned (.tuple #[.int .i64 (placeOf i n k).1, .bool (placeOf i n k).2]) ∧ Drawn0 w w' := by
  have c0 := h.c0
  have c6 := h.c6
  have H := Lib.hid h
  have HF := Lib.hid hf
  obtain ⟨f0, f1, f2⟩ := hf
  clear h
  by_cases h1 : k ≤ i
  · have hp := Lib.hid (show placeOf i n k = (0, false) by unfold placeOf; rw [if_pos (Or.inl h1)])
    have hd : decide (k ≤ i) = true := decide_eq_true h1
    go_enter Try.func54, Try.ntmps54
    go_wp2_with fail
    refine (there_yes c6).mono ?_
    rintro e w1 ⟨rfl, rfl⟩
    go_wp2_with fail
    go_ret2
    exact ⟨by rw [hp.out]; rfl, Drawn0.refl _⟩
  · have hd : decide (k ≤ i) = false := decide_eq_false h1
    by_cases h2 : i + n < k
    · have hp := Lib.hid (show placeOf i n k = (0, false) by unfold placeOf; rw [if_pos (Or.inr h2)])
      have hd2 : decide (i + (n : Int) < k) = true := decide_eq_true h2
      go_enter Try.func54, Try.ntmps54
      go_wp2_with fail
      refine (there_yes c6).mono ?_
      rintro e w1 ⟨rfl, rfl⟩
      go_wp2_with fail
      refine (last_yes H.out HF.out).mono ?_
      rintro e w1 ⟨rfl, ⟨q, rfl⟩⟩
      go_wp2_with fail
      go_ret2
      exact ⟨by rw [hp.out]; rfl, ⟨_, rfl⟩⟩
    · have hp := Lib.hid (show placeOf i n k = (k - i - 1, true) by unfold placeOf; rw [if_neg (by omega)])
      have hd2 : decide (i + (n : Int) < k) = false := decide_eq_false h2
      have hw1 : IntKind.i64.wrap (k - i) = k - i := IntWalk.i64_in _ (by omega)
      have hw2 : IntKind.i64.wrap (k - i - 1) = k - i - 1 := IntWalk.i64_in _ (by omega)
      go_enter Try.func54, Try.ntmps54
      go_wp2_with fail
      refine (there_yes c6).mono ?_
      rintro e w1 ⟨rfl, rfl⟩
      go_wp2_with fail
      refine (last_yes H.out HF.out).mono ?_
      rintro e w1 ⟨rfl, ⟨q, rfl⟩⟩
      go_wp2_with fail
      go_ret2
      exact ⟨by rw [hp.out]; rfl, ⟨_, rfl⟩⟩
/-- The term at an index. -/
def termOf (i t : Int) (es : List Ent) (k : Int) : Int × Bool := if i < k ∧ k ≤ i + es.length then ((es.getD (k - i - 1).toNat zEnt).t, true) else if k = i then (t, true) else (0, false)
set_option maxHeartbeats 400000 in
theorem term_yes {p : Nat} {i t : Int} {A : Option Addr} {c : Nat} {es : List Ent} {w : World} (k : Int) (h : Sees w p i t A es.length c) (hA : entK.C w A es.length es) (hf : Fair i es.length) :
    Calls Try.prog 14 #[.pointer (some ⟨p, 0, none⟩), .int .i64 k] w fun e w' => e = .returned (.tuple #[.int .i64 (termOf i t es k).1, .bool (termOf i t es k).2]) ∧ Drawn0 w w' := by
  have c0 := h.c0
  have c1 := h.c1
  have c6 := h.c6
  have c7 := h.c7
  have H := Lib.hid h
  have HF := Lib.hid hf
  obtain ⟨f0, f1, f2⟩ := hf
  clear h
  by_cases h1 : i < k ∧ k ≤ i + es.length
  · obtain ⟨j, hj⟩ := Int.eq_ofNat_of_zero_le (show 0 ≤ k - i - 1 by omega)
    have hjn : j < es.length := by omega
    obtain ⟨ad, x, A2, c2, A3, c3, A4, c4, A5, c5, A6, c6', rfl, hx, k0, _⟩ := entK_at hA hjn
    have hp := Lib.hid (show termOf i t es k = (x.t, true) by unfold termOf; rw [if_pos h1, hj]; simp [hx])
    have hq := Lib.hid (show placeOf i es.length k = ((j : Int), true) by unfold placeOf; rw [if_neg (by omega), hj])
    clear hx hA
    have hpl := Lib.hid (place_yes k H.out HF.out)
    rw [hq.out] at hpl
    go_enter Try.func14, Try.ntmps14
    go_wp2_with fail
    refine hpl.out.mono ?_
    rintro e w1 ⟨rfl, ⟨q, rfl⟩⟩
    go_wp2_with fail
    go_ret2
    exact ⟨by rw [hp.out]; rfl, ⟨_, rfl⟩⟩
  · have hq := Lib.hid (show placeOf i es.length k = (0, false) by unfold placeOf; rw [if_pos (by omega)])
    have hpl := Lib.hid (place_yes k H.out HF.out)
    rw [hq.out] at hpl
    by_cases h2 : k = i
    · have hp := Lib.hid (show termOf i t es k = (t, true) by unfold termOf; rw [if_neg h1, if_pos h2])
      have hd : (k == i) = true := by rw [beq_iff_eq]; exact h2
      clear h2
      go_enter Try.func14, Try.ntmps14
      go_wp2_with fail
      refine hpl.out.mono ?_
      rintro e w1 ⟨rfl, ⟨q, rfl⟩⟩
      go_wp2_with fail
      refine (there_yes (H.out.in_ (In.drewN (In.refl _) _)).c6).mono ?_
      rintro e w1 ⟨rfl, rfl⟩
      go_wp2_with fail
      go_ret2
      exact ⟨by rw [hp.out]; rfl, ⟨_, rfl⟩⟩
    · have hp := Lib.hid (show termOf i t es k = (0, false) by unfold termOf; rw [if_neg h1, if_neg h2])
      have hd : (k == i) = false := by rw [beq_eq_false_iff_ne]; exact h2
      clear h2
      go_enter Try.func14, Try.ntmps14
      go_wp2_with fail
      refine hpl.out.mono ?_
      rintro e w1 ⟨rfl, ⟨q, rfl⟩⟩
      go_wp2_with fail
      refine (there_yes (H.out.in_ (In.drewN (In.refl _) _)).c6).mono ?_
      rintro e w1 ⟨rfl, rfl⟩
      go_wp2_with fail
      go_ret2
      exact ⟨by rw [hp.out]; rfl, ⟨_, rfl⟩⟩
end Go.Proofs.Ytgpnfgjmdehfdaa
