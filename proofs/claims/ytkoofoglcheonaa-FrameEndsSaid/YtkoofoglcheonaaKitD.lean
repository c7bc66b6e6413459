/- A part of the proofs over package sum and its reference: the walks, or what they lean on. -/
import Derived.Test.YtkoofoglcheonaaKitC
namespace Go.Proofs.Ytkoofoglcheonaa
set_option linter.unusedVariables false
set_option linter.unusedSimpArgs false
open Go.RowKit Go.Proofs.YtkoofoglcheonaaW.PrintWords

theorem info34 : (Try.prog.info? 34).map (fun i => (i.zero, i.size, i.bytes)) = some (some (.slice none 0 0), 1, 24) := by kernel_rfl

theorem Lent.below {w w1 : World} {base : Nat} {v : Value} {xs : List UInt8} (h : Lent w base v xs) (hb : Below w.heap.size w w1) : Lent w1 base v xs := by
  obtain ⟨g, c, rfl, ho⟩ := h
  exact ⟨g, c, rfl, pw_own_below ho hb⟩
theorem Lent.mono {w : World} {base base' : Nat} {v : Value} {xs : List UInt8} (h : Lent w base v xs) (hb : base' ≤ base) : Lent w base' v xs := by
  obtain ⟨g, c, rfl, ho⟩ := h
  exact ⟨g, c, rfl, own_weaken ho hb⟩
theorem Lent.other {w w1 : World} {base b e s n : Nat} {v u : Value} {xs : List UInt8} {ys : List Value} (h : Lent w base v xs) (ho : w.ownsRow b e s u n ys) (he : 5 ≠ e) (hg : w.grownBy w1 u.ownBlock) : Lent w1 base v xs := by
  obtain ⟨g, c, rfl, h⟩ := h
  exact ⟨g, c, rfl, own_other h hg (own_type_ne h ho he)⟩
/-- What is lent reads as it is. -/
theorem Lent.reads {w : World} {base : Nat} {v : Value} {xs : List UInt8} (h : Lent w base v xs) : ∃ A c, v = .slice A xs.length c ∧ xs.length ≤ c ∧ byte.C w A xs.length xs := by
  obtain ⟨g, c, rfl, ho⟩ := h
  have hc := own_le ho
  have hr := own_reads_of' (d := (0 : UInt8)) ho
  have ht := hr.take_ xs.length (by omega)
  rw [List.take_left] at ht
  exact ⟨_, c, rfl, by omega, byte_of_reads ht⟩

def LentR (w : World) (base : Nat) (v : Value) (xss : List (List UInt8)) : Prop :=
  ∃ vs : List Value, w.ownsRow base 34 1 v xss.length vs ∧ ∀ (i : Nat) (xs : List UInt8), xss[i]? = some xs → ∃ u, vs[i]? = some u ∧ Lent w base u xs
theorem LentR.below {w w1 : World} {base : Nat} {v : Value} {xss : List (List UInt8)} (h : LentR w base v xss) (hb : Below w.heap.size w w1) : LentR w1 base v xss := by
  obtain ⟨vs, ho, hr⟩ := h
  refine ⟨vs, pw_own_below ho hb, fun i xs hx => ?_⟩
  obtain ⟨u, hu, hl⟩ := hr i xs hx
  exact ⟨u, hu, hl.below hb⟩
theorem LentR.len {w : World} {base : Nat} {v : Value} {xss : List (List UInt8)} (h : LentR w base v xss) : ∃ A c, v = .slice A xss.length c ∧ xss.length ≤ c := by
  obtain ⟨vs, ho, _⟩ := h
  obtain ⟨A, c, rfl⟩ := own_slice ho
  exact ⟨A, c, rfl, own_le ho⟩
theorem LentR.at_ {w : World} {base : Nat} {A : Option Addr} {c : Nat} {xss : List (List UInt8)} (h : LentR w base (.slice A xss.length c) xss) {k : Nat} (hk : k < xss.length) {xs : List UInt8} (hx : xss[k]? = some xs) :
    ∃ ad u, A = some ad ∧ w.cell? (ad.add k) = some u ∧ Lent w base u xs := by
  obtain ⟨vs, ho, hr⟩ := h
  obtain ⟨u, hu, hl⟩ := hr k xs hx
  obtain ⟨g, cap, hv, _, _⟩ := ho.form (by omega)
  injection hv with hA
  subst hA
  exact ⟨_, u, rfl, ho.cells (g := g) rfl k u hu, hl⟩
theorem LentR.reads {w : World} {base : Nat} {v : Value} {xss : List (List UInt8)} (h : LentR w base v xss) : ∃ A c, v = .slice A xss.length c ∧ xss.length ≤ c ∧ bytes.C w A xss.length xss := by
  obtain ⟨A, c, rfl, hc⟩ := h.len
  refine ⟨A, c, rfl, hc, rfl, ?_, fun hn => ?_⟩
  · obtain ⟨vs, ho, _⟩ := h
    rcases ho.2 with ⟨hv, _⟩ | ⟨g', cap', cur, he, _, _, h1, h2, _⟩
    · injection hv with _ h2 _
      omega
    · simp only [maxLen] at h2
      omega
  · obtain ⟨x0, hx0⟩ : ∃ x, xss[0]? = some x := ⟨xss[0], List.getElem?_eq_getElem hn⟩
    obtain ⟨ad, _, rfl, _, _⟩ := h.at_ hn hx0
    refine ⟨ad, rfl, fun j p hp => ?_⟩
    have hj := (List.getElem?_eq_some_iff.1 hp).1
    obtain ⟨ad', u, ha, hcell, hl⟩ := h.at_ hj hp
    injection ha with ha
    subst ha
    obtain ⟨A', c', rfl, hle, hC⟩ := hl.reads
    refine ⟨[.slice A' p.length c'], rfl, ⟨A', c', rfl, hle, hC⟩, fun i u hu => ?_⟩
    match i, hu with
    | 0, hu =>
      simp at hu
      subst hu
      simpa [bytes, Kd.slice] using hcell

set_option maxHeartbeats 800000 in
theorem lentRows_any (A : Option Addr) (c : Nat) (xss : List (List UInt8)) (w : World) (hA : bytes.C w A xss.length xss) (hsm : xss.length + xss.flatten.length ≤ 100000000) :
    Calls Try.prog 13 #[.slice A xss.length c] w fun e w' => ∃ v, e = .returned v ∧ LentR w' w.heap.size v xss ∧ Below w.heap.size w w' := by
  obtain ⟨_, hmax⟩ := row_len hA
  go_enter Try.func13, Try.ntmps13
  go_wp2_with fail
  go_loopw [3, 4] (fun v i wr => ∃ k : Nat, k ≤ xss.length ∧ i = .int .i64 k ∧ LentR wr w.heap.size v (xss.take k) ∧ Below w.heap.size w wr) (fun _ i _ => xss.length - (intOf i).toNat)
  case atStart => exact ⟨0, by omega, rfl, ⟨[], own_nil _ _ _ _, fun i xs hx => by simp at hx⟩, Below.refl _ _⟩
  case round =>
    obtain ⟨k, hk, rfl, hl, hbel⟩ := hrel
    have HL := Lib.hid hl
    clear hl
    by_cases hlt : k < xss.length
    · obtain ⟨ad, A', c', xs, rfl, hx, hcell0, hle, hC⟩ := row_at hA hlt
      have hcell := pw_cell_below hbel hcell0
      clear hcell0
      have HX := Lib.hid hx
      have hxs : xs.length ≤ xss.flatten.length := by
        have := List.sublist_flatten_of_mem (List.mem_of_getElem? hx)
        exact this.length_le
      clear hx
      have hlk : (xss.take k).length = k := by rw [List.length_take]; omega
      have HLK := Lib.hid hlk
      clear hlk
      go_wp2_with fail
      refine (lentBytes_any A' c' xs _ (Kd.C_below hC hbel) (by omega)).mono ?_
      rintro e w1 ⟨u, rfl, hlu, hb1⟩
      have hb2 := below_then hbel hbel.size hb1
      obtain ⟨vs, ho, hr⟩ := HL.out.below hb1
      rw [HLK.out] at ho
      have hvl : vs.length = k := by have := ho.1; omega
      rw [← hvl] at ho
      have hvle : vs.length ≤ 100000000 := by omega
      have HVL := Lib.hid hvl
      have HO := Lib.hid ho
      clear ho hvl
      obtain ⟨gu, cu, rfl, hou⟩ := hlu
      go_wp2_with (at_builtin; refine print_append w.heap.size rfl (.tmp 11) (.tmp 17) 22 34 (.slice none 0 0) 24 rfl Try.underlying22 info34 rfl (by decide) _ vs (.slice (some ⟨gu, 0, none⟩) xs.length cu) rfl rfl rfl HO.out hb2 hb2.size (by omega) ?_)
      intro v3 w3 ho3 hb3 hg3 hat3
      go_wp2_with fail
      go_roundw
      case rel =>
        refine ⟨k + 1, by omega, by go_num, ⟨vs ++ [.slice (some ⟨gu, 0, none⟩) xs.length cu], ?_, ?_⟩, hb3⟩
        · have he : (xss.take (k + 1)).length = (vs ++ [Value.slice (some ⟨gu, 0, none⟩) xs.length cu]).length := by
            rw [List.length_take, List.length_append, HVL.out]
            simp
            omega
          rw [he]
          simpa using ho3
        · intro i ys hi
          by_cases hik : i < k
          · rw [List.getElem?_take, if_pos (by omega)] at hi
            obtain ⟨u, hu, hlu⟩ := hr i ys (by rw [List.getElem?_take, if_pos hik]; exact hi)
            exact ⟨u, by rw [List.getElem?_append_left (by rw [HVL.out]; exact hik)]; exact hu, hlu.other HO.out (by decide) hg3⟩
          · have hi2 := (List.getElem?_eq_some_iff.1 hi).1
            rw [List.length_take] at hi2
            obtain rfl : i = k := by omega
            rw [List.getElem?_take, if_pos (by omega), HX.out] at hi
            cases hi
            refine ⟨_, by rw [List.getElem?_append_right (by rw [HVL.out]; omega), HVL.out, Nat.sub_self]; rfl, ?_⟩
            exact Lent.other ⟨gu, cu, rfl, own_weaken hou hbel.size⟩ HO.out (by decide) hg3
      case measure => simp [intOf]; omega
    · obtain rfl : k = xss.length := by omega
      rw [List.take_length] at HL
      obtain ⟨A2, c2, rfl, _⟩ := HL.out.len
      go_wp2_with fail
      go_ret
      exact ⟨_, rfl, HL.out, hbel⟩
end Go.Proofs.Ytkoofoglcheonaa
