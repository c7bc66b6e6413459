/- Frames as bytes, plainly: what is put, what bytes begin with, what is got; cuts and turned bits. -/
import Derived.Test.YtkoofoglcheonaaCrcTurn
namespace Go.Proofs.Ytkoofoglcheonaa
set_option linter.unusedVariables false
set_option linter.unusedSimpArgs false
structure Fr where
  k : Int
  d : List UInt8
namespace Frm

def four (n : Nat) : List UInt8 := [UInt8.ofNat n, UInt8.ofNat (n / 256), UInt8.ofNat (n / 65536), UInt8.ofNat (n / 16777216)]
theorem four_length (n : Nat) : (four n).length = 4 := rfl
def num (b : List UInt8) (o : Nat) : Nat := (b.getD o 0).toNat + 256 * (b.getD (o + 1) 0).toNat + 65536 * (b.getD (o + 2) 0).toNat + 16777216 * (b.getD (o + 3) 0).toNat
theorem toNat_of (n : Nat) : (UInt8.ofNat n).toNat = n % 256 := UInt8.toNat_ofNat'
theorem num_lt (b : List UInt8) (o : Nat) : num b o < 4294967296 := by
  unfold num
  have h0 := (b.getD o 0).toNat_lt
  have h1 := (b.getD (o + 1) 0).toNat_lt
  have h2 := (b.getD (o + 2) 0).toNat_lt
  have h3 := (b.getD (o + 3) 0).toNat_lt
  omega
theorem getD_app (a b : List UInt8) (i : Nat) : (a ++ b).getD (a.length + i) 0 = b.getD i 0 := by
  rw [List.getD_eq_getElem?_getD, List.getD_eq_getElem?_getD, List.getElem?_append_right (by omega), Nat.add_sub_cancel_left]
theorem num_app (a b : List UInt8) (o : Nat) : num (a ++ b) (a.length + o) = num b o := by
  unfold num
  rw [show a.length + o + 1 = a.length + (o + 1) from by omega, show a.length + o + 2 = a.length + (o + 2) from by omega, show a.length + o + 3 = a.length + (o + 3) from by omega, getD_app, getD_app, getD_app, getD_app]
theorem num_four {n : Nat} (h : n < 4294967296) (r : List UInt8) : num (four n ++ r) 0 = n := by
  unfold num four
  simp only [List.cons_append, List.nil_append, List.getD_cons_zero, List.getD_cons_succ, toNat_of, Nat.zero_add]
  omega
theorem ofNat_toNat (x : UInt8) : UInt8.ofNat x.toNat = x := UInt8.ofNat_toNat
theorem byte_ext {x y : UInt8} (h : x.toNat = y.toNat) : x = y := UInt8.toNat_inj.1 h
theorem four_num (b : List UInt8) (o : Nat) : four (num b o) = [b.getD o 0, b.getD (o + 1) 0, b.getD (o + 2) 0, b.getD (o + 3) 0] := by
  unfold four num
  have h0 := (b.getD o 0).toNat_lt
  have h1 := (b.getD (o + 1) 0).toNat_lt
  have h2 := (b.getD (o + 2) 0).toNat_lt
  have h3 := (b.getD (o + 3) 0).toNat_lt
  congr 1
  · exact byte_ext (by rw [toNat_of]; omega)
  congr 1
  · exact byte_ext (by rw [toNat_of]; omega)
  congr 1
  · exact byte_ext (by rw [toNat_of]; omega)
  congr 1
  · exact byte_ext (by rw [toNat_of]; omega)
def head (f : Fr) : List UInt8 := four f.d.length ++ [UInt8.ofNat f.k.toNat]
theorem head_length (f : Fr) : (head f).length = 5 := rfl
def one (f : Fr) : List UInt8 := head f ++ (four (Crc.sum (head f ++ f.d)) ++ f.d)
theorem one_length (f : Fr) : (one f).length = 9 + f.d.length := by
  unfold one
  rw [List.length_append, List.length_append, head_length, four_length]
  omega
def good (f : Fr) : Prop := 0 ≤ f.k ∧ f.k ≤ 255 ∧ f.d.length ≤ 262144
/-- What bytes begin with. -/
def part (b : List UInt8) : Fr := ⟨((b.getD 4 0).toNat : Int), (b.drop 9).take (num b 0)⟩
def fits (b : List UInt8) : Prop := 9 ≤ b.length ∧ num b 0 ≤ 262144 ∧ num b 0 ≤ b.length - 9
def is (b : List UInt8) : Prop := fits b ∧ num b 5 = Crc.sum (b.take 5 ++ (part b).d)
theorem part_one {f : Fr} (hg : good f) (r : List UInt8) : part (one f ++ r) = f := by
  obtain ⟨h0, h1, h2⟩ := hg
  have hn : num (one f ++ r) 0 = f.d.length := by
    unfold one head
    rw [List.append_assoc, List.append_assoc]
    exact num_four (by omega) _
  unfold part
  rw [hn]
  have h9 : (one f ++ r).drop 9 = f.d ++ r := by
    unfold one head four
    rfl
  rw [h9, List.take_left]
  have h4 : (one f ++ r).getD 4 0 = UInt8.ofNat f.k.toNat := by
    unfold one head four
    rfl
  rw [h4, toNat_of]
  cases f
  simp only [Fr.mk.injEq, and_true] at *
  omega
theorem num_one {f : Fr} (hl : f.d.length < 4294967296) (r : List UInt8) : num (one f ++ r) 0 = f.d.length := by
  unfold one head
  rw [List.append_assoc, List.append_assoc]
  exact num_four hl _
theorem is_one {f : Fr} (hg : good f) (r : List UInt8) : is (one f ++ r) := by
  have hp := part_one hg r
  obtain ⟨h0, h1, h2⟩ := hg
  have hn := num_one (f := f) (by omega) r
  refine ⟨⟨?_, by omega, ?_⟩, ?_⟩
  · rw [List.length_append, one_length]; omega
  · rw [hn, List.length_append, one_length]; omega
  · rw [hp]
    have h5 : (one f ++ r).take 5 = head f := by
      unfold one head four
      rfl
    rw [h5]
    have h6 : one f ++ r = head f ++ (four (Crc.sum (head f ++ f.d)) ++ (f.d ++ r)) := by
      unfold one
      simp only [List.append_assoc]
    rw [h6, show (5 : Nat) = (head f).length + 0 from rfl, num_app, num_four (Crc.sum_lt _)]
theorem part_good {b : List UInt8} (h : fits b) : good (part b) := by
  obtain ⟨h0, h1, h2⟩ := h
  have := (b.getD 4 0).toNat_lt
  refine ⟨by unfold part; dsimp only; omega, by unfold part; dsimp only; omega, ?_⟩
  unfold part
  rw [List.length_take]
  omega
theorem part_len {b : List UInt8} (h : fits b) : (part b).d.length = num b 0 := by
  obtain ⟨h0, h1, h2⟩ := h
  unfold part
  rw [List.length_take, List.length_drop]
  omega
theorem take_five {b : List UInt8} (h : 9 ≤ b.length) : b = [b.getD 0 0, b.getD 1 0, b.getD 2 0, b.getD 3 0, b.getD 4 0, b.getD 5 0, b.getD 6 0, b.getD 7 0, b.getD 8 0] ++ b.drop 9 := by
  match b, h with
  | x0 :: x1 :: x2 :: x3 :: x4 :: x5 :: x6 :: x7 :: x8 :: r, _ => rfl
theorem head_part {b : List UInt8} (h : fits b) : head (part b) = b.take 5 := by
  unfold head
  rw [part_len h, four_num]
  have h1 : UInt8.ofNat (part b).k.toNat = b.getD 4 0 := by
    unfold part
    rw [Int.toNat_natCast]
    exact ofNat_toNat _
  rw [h1]
  conv => rhs; rw [take_five h.1]
  rfl
theorem one_part {b : List UInt8} (h : is b) : b = one (part b) ++ b.drop (9 + (part b).d.length) := by
  obtain ⟨hf, hs⟩ := h
  have h5 := head_part hf
  have hl := part_len hf
  unfold one
  rw [h5, ← hs, four_num, hl]
  conv => lhs; rw [take_five hf.1]
  have hb : b.take 5 = [b.getD 0 0, b.getD 1 0, b.getD 2 0, b.getD 3 0, b.getD 4 0] := by
    conv => lhs; rw [take_five hf.1]
    rfl
  rw [hb]
  have hd : b.drop 9 = (part b).d ++ b.drop (9 + num b 0) := by
    unfold part
    rw [← List.drop_drop, List.take_append_drop]
  rw [hd]
  simp only [List.cons_append, List.nil_append, List.append_assoc]
/-- What is got. -/
noncomputable def getF : Nat → List UInt8 → List Fr
  | 0, _ => []
  | n + 1, b => open Classical in if is b then part b :: getF n (b.drop (9 + (part b).d.length)) else []
theorem getF_more : ∀ (n : Nat) (b : List UInt8), b.length ≤ n → ∀ m, b.length ≤ m → getF n b = getF m b := by
  intro n
  induction n with
  | zero =>
    intro b hb m hm
    cases m with
    | zero => rfl
    | succ m =>
      rw [getF, getF, if_neg]
      intro h
      have := h.1.1
      omega
  | succ n ih =>
    intro b hb m hm
    cases m with
    | zero =>
      rw [getF, getF, if_neg]
      intro h
      have := h.1.1
      omega
    | succ m =>
      rw [getF, getF]
      by_cases h : is b
      · rw [if_pos h, if_pos h]
        have := h.1.1
        rw [ih _ (by rw [List.length_drop]; omega) m (by rw [List.length_drop]; omega)]
      · rw [if_neg h, if_neg h]
noncomputable def get (b : List UInt8) : List Fr := getF b.length b
theorem get_yes {b : List UInt8} (h : is b) : get b = part b :: get (b.drop (9 + (part b).d.length)) := by
  have h9 := h.1.1
  unfold get
  rw [getF_more b.length b (Nat.le_refl _) (b.length + 1) (by omega), getF, if_pos h]
  rw [getF_more b.length _ (by rw [List.length_drop]; omega) _ (Nat.le_refl _)]
theorem get_no {b : List UInt8} (h : ¬ is b) : get b = [] := by
  unfold get
  rw [getF_more b.length b (Nat.le_refl _) (b.length + 1) (by omega), getF, if_neg h]
def size : List Fr → Nat
  | [] => 0
  | f :: l => 9 + f.d.length + size l
def flat : List Fr → List UInt8
  | [] => []
  | f :: l => one f ++ flat l
theorem flat_length (l : List Fr) : (flat l).length = size l := by
  induction l with
  | nil => rfl
  | cons f l ih => rw [flat, size, List.length_append, one_length, ih]
theorem flat_append (a b : List Fr) : flat (a ++ b) = flat a ++ flat b := by
  induction a with
  | nil => rfl
  | cons f l ih => rw [List.cons_append, flat, flat, ih, List.append_assoc]
theorem size_append (a b : List Fr) : size (a ++ b) = size a + size b := by
  induction a with
  | nil => simp [size]
  | cons f l ih => rw [List.cons_append, size, size, ih]; omega
theorem len_size : ∀ (l : List Fr), 9 * l.length ≤ size l
  | [] => by simp [size]
  | f :: l => by have := len_size l; simp only [size, List.length_cons]; omega
def allGood (l : List Fr) : Prop := ∀ f, f ∈ l → good f
theorem get_flat (l : List Fr) (hg : allGood l) (b : List UInt8) : get (flat l ++ b) = l ++ get b := by
  induction l with
  | nil => rfl
  | cons f l ih =>
    have hf := hg f List.mem_cons_self
    rw [flat, List.append_assoc, get_yes (is_one hf _), part_one hf, List.cons_append]
    have hd : (one f ++ (flat l ++ b)).drop (9 + f.d.length) = flat l ++ b := by
      rw [← one_length f, List.drop_left]
    rw [hd, ih (fun g h => hg g (List.mem_cons_of_mem _ h))]
theorem get_nil : get [] = [] := rfl
theorem get_flat' (l : List Fr) (hg : allGood l) : get (flat l) = l := by
  have := get_flat l hg []
  rwa [List.append_nil, get_nil, List.append_nil] at this
/-- What is got of bytes is what they begin with. -/
theorem get_spec : ∀ (n : Nat) (b : List UInt8), b.length ≤ n → allGood (get b) ∧ b = flat (get b) ++ b.drop (size (get b)) ∧ ¬ is (b.drop (size (get b))) := by
  intro n
  induction n with
  | zero =>
    intro b hb
    have h : ¬ is b := fun h => by have := h.1.1; omega
    rw [get_no h]
    exact ⟨fun f hf => by simp at hf, by simp [flat, size], by simpa [size] using h⟩
  | succ n ih =>
    intro b hb
    by_cases h : is b
    · have h9 := h.1.1
      rw [get_yes h]
      obtain ⟨h1, h2, h3⟩ := ih (b.drop (9 + (part b).d.length)) (by rw [List.length_drop]; omega)
      refine ⟨fun f hf => ?_, ?_, ?_⟩
      · rcases List.mem_cons.1 hf with rfl | hf
        · exact part_good h.1
        · exact h1 f hf
      · have h4 : b.drop (9 + (part b).d.length + size (get (b.drop (9 + (part b).d.length)))) = (b.drop (9 + (part b).d.length)).drop (size (get (b.drop (9 + (part b).d.length)))) := by rw [List.drop_drop]
        rw [flat, size, h4, List.append_assoc, ← h2]
        exact one_part h
      · have h4 : b.drop (9 + (part b).d.length + size (get (b.drop (9 + (part b).d.length)))) = (b.drop (9 + (part b).d.length)).drop (size (get (b.drop (9 + (part b).d.length)))) := by rw [List.drop_drop]
        rw [size, h4]
        exact h3
    · rw [get_no h]
      exact ⟨fun f hf => by simp at hf, by simp [flat, size], by simpa [size] using h⟩
theorem get_good (b : List UInt8) : allGood (get b) := (get_spec b.length b (Nat.le_refl _)).1
theorem get_eq (b : List UInt8) : b = flat (get b) ++ b.drop (size (get b)) := (get_spec b.length b (Nat.le_refl _)).2.1
theorem get_size (b : List UInt8) : size (get b) ≤ b.length := by
  have h := congrArg List.length (get_eq b)
  rw [List.length_append, flat_length] at h
  omega
theorem get_take (b : List UInt8) : b.take (size (get b)) = flat (get b) := by
  have h := congrArg (List.take (flat (get b)).length) (get_eq b)
  rw [List.take_left, flat_length] at h
  exact h
end Frm
end Go.Proofs.Ytkoofoglcheonaa
