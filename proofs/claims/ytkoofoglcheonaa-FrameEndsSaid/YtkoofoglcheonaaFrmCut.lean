/- Frames as bytes, plainly: what is got where they are cut, where a bit is turned. -/
import Derived.Test.YtkoofoglcheonaaFrm
namespace Go.Proofs.Ytkoofoglcheonaa
set_option linter.unusedVariables false
set_option linter.unusedSimpArgs false
namespace Frm

theorem is_more {p : List UInt8} (h : is p) (s : List UInt8) : is (p ++ s) ∧ part (p ++ s) = part p := by
  have h1 := one_part h
  have hg := part_good h.1
  have h2 : p ++ s = one (part p) ++ (p.drop (9 + (part p).d.length) ++ s) := by
    conv => lhs; rw [h1]
    rw [List.append_assoc]
  rw [h2]
  exact ⟨is_one hg _, part_one hg _⟩
theorem is_len {p : List UInt8} (h : is p) : 9 + (part p).d.length ≤ p.length := by
  have h1 := congrArg List.length (one_part h)
  rw [List.length_append, one_length] at h1
  omega
theorem size_snoc {l : List Fr} {j : Nat} {f : Fr} (h : l[j]? = some f) : size (l.take (j + 1)) = size (l.take j) + (9 + f.d.length) := by
  rw [List.take_add_one, h, size_append]
  simp [size]
theorem flat_part {l : List Fr} {j : Nat} {f : Fr} (h : l[j]? = some f) : flat l = flat (l.take j) ++ (one f ++ flat (l.drop (j + 1))) := by
  obtain ⟨hl, hf⟩ := List.getElem?_eq_some_iff.1 h
  have h1 : l.drop j = f :: l.drop (j + 1) := by rw [List.drop_eq_getElem_cons hl, hf]
  rw [← flat, ← h1, ← flat_append, List.take_append_drop]
theorem size_le (l : List Fr) (j : Nat) : size (l.take j) ≤ size l := by
  conv => rhs; rw [← List.take_append_drop j l]
  rw [size_append]
  omega
theorem take_good {l : List Fr} (hg : allGood l) (j : Nat) : allGood (l.take j) := fun f hf => hg f (List.mem_of_mem_take hf)
theorem get_cut {l : List Fr} (hg : allGood l) {j k : Nat} (hj : j ≤ l.length) (hk : size (l.take j) ≤ k) (hs : ∀ f, l[j]? = some f → k < size (l.take j) + (9 + f.d.length)) : get ((flat l).take k) = l.take j := by
  have h1 : flat l = flat (l.take j) ++ flat (l.drop j) := by rw [← flat_append, List.take_append_drop]
  rw [h1, List.take_append, List.take_of_length_le (by rw [flat_length]; exact hk), flat_length, get_flat _ (take_good hg j)]
  have h2 : ¬ is ((flat (l.drop j)).take (k - size (l.take j))) := by
    intro h
    have h3 := is_more h ((flat (l.drop j)).drop (k - size (l.take j)))
    rw [List.take_append_drop] at h3
    have hlen := is_len h
    rw [← h3.2] at hlen
    cases hf : l[j]? with
    | none =>
      have : l.length ≤ j := by rw [List.getElem?_eq_none_iff] at hf; exact hf
      rw [List.drop_of_length_le this] at hlen
      simp [flat] at hlen
    | some f =>
      obtain ⟨hl, hff⟩ := List.getElem?_eq_some_iff.1 hf
      rw [List.drop_eq_getElem_cons hl, hff, flat, part_one (hg f (List.mem_of_getElem? hf)), List.length_take] at hlen
      have := hs f hf
      omega
  rw [get_no h2, List.append_nil]
theorem getD_set_ne {b : List UInt8} {p q : Nat} {y : UInt8} (h : p ≠ q) : (b.set p y).getD q 0 = b.getD q 0 := by
  rw [List.getD_eq_getElem?_getD, List.getD_eq_getElem?_getD, List.getElem?_set_ne h]
theorem getD_set_self {b : List UInt8} {p : Nat} {y : UInt8} (h : p < b.length) : (b.set p y).getD p 0 = y := by
  rw [List.getD_eq_getElem?_getD, List.getElem?_set_self h]
  rfl
theorem turnB_ne (y : UInt8) {j : Nat} (hj : j < 8) : Crc.turnB y j ≠ y := by
  intro h
  have h1 := Crc.turnB_toNat y hj
  rw [h] at h1
  have h2 : (2 : Nat) ^ j = 0 := by
    have h3 : y.toNat ^^^ y.toNat = y.toNat ^^^ (y.toNat ^^^ 2 ^ j) := congrArg (fun n => y.toNat ^^^ n) h1
    rw [Nat.xor_self, ← Nat.xor_assoc, Nat.xor_self, Nat.zero_xor] at h3
    exact h3.symm
  have := Nat.two_pow_pos j
  omega
theorem turn_mk {X : List UInt8} {q j : Nat} (hj : j < 8) : X.set q (Crc.turnB (X.getD q 0) j) = Crc.turnAt X (8 * q + j) := by
  unfold Crc.turnAt
  rw [show (8 * q + j) / 8 = q from by omega, show (8 * q + j) % 8 = j from by omega]
theorem turn_not {f : Fr} {s : List UInt8} {i : Nat} (hg : good f) (h4 : 4 ≤ i / 8) (h9 : i / 8 < 9 + f.d.length) : ¬ is (Crc.turnAt (one f ++ s) i) := by
  have hb := is_one hg s
  have hp := part_one hg s
  have hlen : (one f ++ s).length = 9 + f.d.length + s.length := by rw [List.length_append, one_length]
  have hj : i % 8 < 8 := by omega
  have hX5 : (one f ++ s).take 5 = head f := rfl
  have hX9 : (one f ++ s).drop 9 = f.d ++ s := rfl
  have hn : num (one f ++ s) 0 = f.d.length := num_one (by have := hg.2.2; omega) s
  have hget : ∀ q, (one f ++ s).getD (9 + q) 0 = (f.d ++ s).getD q 0 := fun q => by
    rw [← hX9, List.getD_eq_getElem?_getD, List.getD_eq_getElem?_getD, List.getElem?_drop]
  have hg4 : (one f ++ s).getD 4 0 = (head f ++ f.d).getD 4 0 := rfl
  intro hc
  obtain ⟨hcf, hcs⟩ := hc
  obtain ⟨hbf, hbs⟩ := hb
  rw [hp, hX5] at hbs
  unfold Crc.turnAt at hcs hcf
  generalize hbb : one f ++ s = b at *
  generalize hpp : i / 8 = p at *
  generalize hjj : i % 8 = j at *
  have hnc : num (b.set p (Crc.turnB (b.getD p 0) j)) 0 = f.d.length := by
    rw [← hn]
    unfold num
    rw [getD_set_ne (by omega), getD_set_ne (by omega), getD_set_ne (by omega), getD_set_ne (by omega)]
  by_cases h5 : p < 5
  · obtain rfl : p = 4 := by omega
    have hd : (part (b.set 4 (Crc.turnB (b.getD 4 0) j))).d = f.d := by
      unfold part
      rw [hnc]
      dsimp only
      rw [List.drop_set_of_lt (by omega), hX9, List.take_left]
    have hn5 : num (b.set 4 (Crc.turnB (b.getD 4 0) j)) 5 = num b 5 := by
      unfold num
      rw [getD_set_ne (by omega), getD_set_ne (by omega), getD_set_ne (by omega), getD_set_ne (by omega)]
    rw [hd, hn5, hbs, List.take_set, hX5, ← List.set_append_left _ _ (by rw [head_length]; omega), hg4, turn_mk hj] at hcs
    exact Crc.sum_one (by rw [List.length_append, head_length]; omega) hcs.symm
  · by_cases h99 : p < 9
    · have hd : (part (b.set p (Crc.turnB (b.getD p 0) j))).d = f.d := by
        unfold part
        rw [hnc]
        dsimp only
        rw [List.drop_set_of_lt (by omega), hX9, List.take_left]
      rw [hd, List.take_set, hX5, List.set_eq_of_length_le (l := head f) (by rw [head_length]; omega), ← hbs] at hcs
      have h1 := four_num (b.set p (Crc.turnB (b.getD p 0) j)) 5
      rw [hcs, four_num] at h1
      have hne := turnB_ne (b.getD p 0) hj
      have hse := getD_set_self (b := b) (p := p) (y := Crc.turnB (b.getD p 0) j) (by omega)
      simp only [List.cons.injEq, and_true] at h1
      obtain ⟨e5, e6, e7, e8⟩ := h1
      have : p = 5 ∨ p = 6 ∨ p = 7 ∨ p = 8 := by omega
      rcases this with rfl | rfl | rfl | rfl
      · exact hne (hse.symm.trans e5.symm)
      · exact hne (hse.symm.trans e6.symm)
      · exact hne (hse.symm.trans e7.symm)
      · exact hne (hse.symm.trans e8.symm)
    · obtain ⟨q, rfl⟩ : ∃ q, p = 9 + q := ⟨p - 9, by omega⟩
      have hd : (part (b.set (9 + q) (Crc.turnB (b.getD (9 + q) 0) j))).d = f.d.set q (Crc.turnB (b.getD (9 + q) 0) j) := by
        unfold part
        rw [hnc]
        dsimp only
        rw [← List.set_drop, hX9, List.set_append_left _ _ (by omega)]
        have hl : (f.d.set q (Crc.turnB (b.getD (9 + q) 0) j)).length = f.d.length := List.length_set
        rw [← hl, List.take_left]
      have hn5 : num (b.set (9 + q) (Crc.turnB (b.getD (9 + q) 0) j)) 5 = num b 5 := by
        unfold num
        rw [getD_set_ne (by omega), getD_set_ne (by omega), getD_set_ne (by omega), getD_set_ne (by omega)]
      have hy : b.getD (9 + q) 0 = (head f ++ f.d).getD (5 + q) 0 := by
        rw [hget q]
        have h1 := getD_app (head f) f.d q
        rw [head_length] at h1
        rw [h1, List.getD_eq_getElem?_getD, List.getD_eq_getElem?_getD, List.getElem?_append_left (by omega)]
      have hs : head f ++ f.d.set q (Crc.turnB (b.getD (9 + q) 0) j) = (head f ++ f.d).set (5 + q) (Crc.turnB (b.getD (9 + q) 0) j) := by
        rw [List.set_append_right _ _ (by rw [head_length]; omega), head_length, Nat.add_sub_cancel_left]
      rw [hd, hn5, hbs, List.take_set, hX5, List.set_eq_of_length_le (l := head f) (by rw [head_length]; omega), hs, hy, turn_mk hj] at hcs
      exact Crc.sum_one (by rw [List.length_append, head_length]; omega) hcs.symm
theorem turn_app {a b : List UInt8} {i : Nat} (h : a.length ≤ i / 8) : Crc.turnAt (a ++ b) i = a ++ Crc.turnAt b (i - 8 * a.length) := by
  unfold Crc.turnAt
  have h1 : (i - 8 * a.length) / 8 = i / 8 - a.length := by omega
  have h2 : (i - 8 * a.length) % 8 = i % 8 := by omega
  rw [h1, h2, List.set_append_right _ _ h]
  have h3 := getD_app a b (i / 8 - a.length)
  rw [show a.length + (i / 8 - a.length) = i / 8 from by omega] at h3
  rw [h3]
/-- Where a bit is turned: the frames ahead are got; where it is none of the four bytes of the length, no more. -/
theorem get_turn {l : List Fr} (hg : allGood l) {i j : Nat} {f : Fr} (hf : l[j]? = some f) (h1 : size (l.take j) ≤ i / 8) (h2 : i / 8 < size (l.take j) + (9 + f.d.length)) :
    ∃ r, get (Crc.turnAt (flat l) i) = l.take j ++ r ∧ (4 ≤ i / 8 - size (l.take j) → r = []) := by
  rw [flat_part hf, turn_app (by rw [flat_length]; exact h1), get_flat _ (take_good hg j), flat_length]
  refine ⟨_, rfl, fun h4 => get_no (turn_not (hg f (List.mem_of_getElem? hf)) ?_ ?_)⟩
  · omega
  · omega
/-- Frames with anything behind. -/
theorem get_behind {l : List Fr} (hg : allGood l) (b : List UInt8) : get (flat l ++ b) = l ++ get b := get_flat l hg b
end Frm
end Go.Proofs.Ytkoofoglcheonaa
