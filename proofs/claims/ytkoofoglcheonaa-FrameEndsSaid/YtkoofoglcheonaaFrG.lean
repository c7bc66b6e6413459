/- The walks of package frame, seventh part: Put. -/
import Derived.Test.YtkoofoglcheonaaFrF
namespace Go.Proofs.Ytkoofoglcheonaa
set_option linter.unusedVariables false
set_option linter.unusedSimpArgs false
open Go.RowKit Go.Proofs.YtkoofoglcheonaaW.PrintWords

namespace Frm
def codeOf (f : Fr) : Nat := if f.k < 0 ∨ 255 < f.k then 2 else if 262144 < f.d.length then 3 else 0
def putE : List Fr → Nat
  | [] => 0
  | f :: l => if codeOf f = 0 then putE l else codeOf f
theorem code_good {f : Fr} : codeOf f = 0 ↔ good f := by
  unfold codeOf good
  split
  · constructor
    · intro h; omega
    · intro h; omega
  · split
    · constructor
      · intro h; omega
      · intro h; omega
    · constructor
      · intro h; omega
      · intro h; rfl
theorem putE_good {l : List Fr} : putE l = 0 ↔ allGood l := by
  induction l with
  | nil => exact ⟨fun _ f hf => by simp at hf, fun _ => rfl⟩
  | cons f l ih =>
    rw [putE]
    by_cases h : codeOf f = 0
    · rw [if_pos h, ih]
      constructor
      · intro h2 g hg
        rcases List.mem_cons.1 hg with rfl | hg
        · exact code_good.1 h
        · exact h2 g hg
      · exact fun h2 g hg => h2 g (List.mem_cons_of_mem _ hg)
    · rw [if_neg h]
      constructor
      · exact fun h2 => absurd h2 h
      · exact fun h2 => code_good.2 (h2 f List.mem_cons_self)
theorem putE_step {l : List Fr} {k : Nat} {f : Fr} (hf : l[k]? = some f) (h : codeOf f = 0) : putE (l.drop k) = putE (l.drop (k + 1)) := by
  obtain ⟨hl, hff⟩ := List.getElem?_eq_some_iff.1 hf
  rw [List.drop_eq_getElem_cons hl, hff, putE, if_pos h]
theorem putE_stop {l : List Fr} {k : Nat} {f : Fr} (hf : l[k]? = some f) (h : codeOf f ≠ 0) : putE (l.drop k) = codeOf f := by
  obtain ⟨hl, hff⟩ := List.getElem?_eq_some_iff.1 hf
  rw [List.drop_eq_getElem_cons hl, hff, putE, if_neg h]
theorem flat_snoc {l : List Fr} {k : Nat} {f : Fr} (hf : l[k]? = some f) : flat (l.take (k + 1)) = flat (l.take k) ++ one f := by
  rw [List.take_add_one, hf, flat_append]
  simp [flat]
end Frm
theorem rc4 {W : World} {g : Nat} {a b c d : List UInt8} (h0 : RC W g 0 a) (h1 : RC W g 1 b) (h2 : RC W g 2 c) (h3 : RC W g 3 d) : bytes.C W (some ⟨g, 0, none⟩) 4 [a, b, c, d] :=
  row_cells rfl (by omega) (fun i us hi => by
    match i, hi with
    | 0, hi => cases hi; obtain ⟨A, n, c, h, hle, hC⟩ := h0; obtain rfl := hC.1; exact ⟨A, c, h, hle, hC⟩
    | 1, hi => cases hi; obtain ⟨A, n, c, h, hle, hC⟩ := h1; obtain rfl := hC.1; exact ⟨A, c, h, hle, hC⟩
    | 2, hi => cases hi; obtain ⟨A, n, c, h, hle, hC⟩ := h2; obtain rfl := hC.1; exact ⟨A, c, h, hle, hC⟩
    | 3, hi => cases hi; obtain ⟨A, n, c, h, hle, hC⟩ := h3; obtain rfl := hC.1; exact ⟨A, c, h, hle, hC⟩)
theorem concat4 {W : World} {g : Nat} {a b c d : List UInt8} (hl : (a ++ (b ++ (c ++ d))).length ≤ 1000000000000) (h0 : RC W g 0 a) (h1 : RC W g 1 b) (h2 : RC W g 2 c) (h3 : RC W g 3 d) :
    Calls Try.prog 43 #[.slice (some ⟨g, 0, none⟩) 4 4] W fun e w' => ∃ v, e = .returned v ∧ Mine W w' v (a ++ (b ++ (c ++ d))) ∧ In W w' := by
  have := concat_any (some ⟨g, 0, none⟩) 4 [a, b, c, d] W (rc4 h0 h1 h2 h3)
  simp only [List.flatten_cons, List.flatten_nil, List.append_nil] at this
  exact this hl
/-- What Put tells. -/
def Puts (l : List Fr) (w : World) (e : Ending) (w' : World) : Prop :=
  In w w' ∧ ((Frm.putE l = 0 ∧ ∃ v, e = .returned (.tuple #[v, .int .i64 0]) ∧ Mine w w' v (Frm.flat l)) ∨ (Frm.putE l ≠ 0 ∧ e = .returned (.tuple #[.slice none 0 0, .int .i64 (Frm.putE l)])))
set_option maxRecDepth 100000 in
set_option maxHeartbeats 3200000 in
theorem put_any {A : Option Addr} {c : Nat} {l : List Fr} {w : World} (hA : frK.C w A l.length l) (hl : Frm.size l ≤ 1000000000) :
    Calls Try.prog 25 #[.slice A l.length c] w (Puts l w) := by
  have hmx := hA.2.1
  go_enter Try.func25, Try.ntmps25
  go_wp2_with fail
  go_loopw [4, 6, 7, 10] (fun v _ _ i wr => ∃ k : Nat, k ≤ l.length ∧ i = .int .i64 k ∧ Hid (Frm.putE l = Frm.putE (l.drop k)) ∧ Mine w wr v (Frm.flat (l.take k)) ∧ In w wr) (fun _ _ _ i _ => l.length - (intOf i).toNat)
  case atStart => exact ⟨0, by omega, rfl, Lib.hid rfl, Mine.nil _ _, In.refl _⟩
  case round =>
    obtain ⟨k, hk, rfl, hpe, hm, hin⟩ := hrel
    have HM := Lib.hid hm
    clear hm
    by_cases hlt : k < l.length
    · obtain ⟨ad, f, A1, c1, rfl, hx, h0, h1, hle1, hC1⟩ := frK_at (Kd.C_below hA hin.out) hlt
      have HX := Lib.hid hx
      have HC1 := Lib.hid hC1
      clear hx hC1
      have hfs : Hid (Frm.size (l.take k) + (9 + f.d.length) ≤ 1000000000) := Lib.hid (by rw [← Frm.size_snoc HX.out]; exact Nat.le_trans (Frm.size_le _ _) hl)
      by_cases hc1 : f.k < 0
      · have hd1 : decide (f.k < 0) = true := decide_eq_true hc1
        have hcode := Lib.hid (show Frm.putE l = 2 by rw [hpe.out]; rw [Frm.putE_stop HX.out] <;> simp [Frm.codeOf, hc1])
        go_wp2_with fail
        go_ret2
        exact ⟨In.alloc hin _, .inr ⟨by rw [hcode.out]; omega, by rw [hcode.out]; rfl⟩⟩
      have hd1 : decide (f.k < 0) = false := decide_eq_false hc1
      by_cases hc2 : 255 < f.k
      · have hd2 : decide (255 < f.k) = true := decide_eq_true hc2
        have hcode := Lib.hid (show Frm.putE l = 2 by rw [hpe.out]; rw [Frm.putE_stop HX.out] <;> simp [Frm.codeOf, hc2])
        go_wp2_with fail
        go_ret2
        exact ⟨In.alloc hin _, .inr ⟨by rw [hcode.out]; omega, by rw [hcode.out]; rfl⟩⟩
      have hd2 : decide (255 < f.k) = false := decide_eq_false hc2
      by_cases hc3 : 262144 < f.d.length
      · have hd3 : decide (262144 < (f.d.length : Int)) = true := decide_eq_true (by omega)
        have hcode := Lib.hid (show Frm.putE l = 3 by rw [hpe.out]; rw [Frm.putE_stop HX.out] <;> simp [Frm.codeOf, hc1, hc2, hc3])
        go_wp2_with fail
        go_ret2
        exact ⟨In.alloc hin _, .inr ⟨by rw [hcode.out]; omega, by rw [hcode.out]; rfl⟩⟩
      have hd3 : decide (262144 < (f.d.length : Int)) = false := decide_eq_false (by omega)
      have hgood := Lib.hid (show Frm.good f from ⟨by omega, by omega, by omega⟩)
      go_upto_region 9 with (fail)
      have hb1 := blk_new wr (.cells #[.int .i64 f.k, .slice A1 f.d.length c1] 44)
      have hin1 := In.alloc (In.refl wr) (.cells #[.int .i64 f.k, .slice A1 f.d.length c1] 44)
      obtain ⟨H, hH⟩ : ∃ H, H = Frm.head f := ⟨_, rfl⟩
      have hhd : Calls Try.prog 42 #[.agg #[.int .i64 f.k, .slice A1 f.d.length c1]] (wr.alloc (.cells #[.int .i64 f.k, .slice A1 f.d.length c1] 44)) fun e w' => ∃ v, e = .returned v ∧ Mine (wr.alloc (.cells #[.int .i64 f.k, .slice A1 f.d.length c1] 44)) w' v H ∧ In (wr.alloc (.cells #[.int .i64 f.k, .slice A1 f.d.length c1] 44)) w' := by
        rw [hH]
        exact head_any (f := f) (cs := [.int .i64 f.k, .slice A1 f.d.length c1]) (frK_mk hle1 (Kd.C_below HC1.out hin1.out)) hgood.out.1 hgood.out.2.1 (by omega)
      have HHD := Lib.hid hhd
      have HH := Lib.hid hH
      clear hhd hH h0 h1
      generalize wr.alloc (.cells #[.int .i64 f.k, .slice A1 f.d.length c1] 44) = w1 at *
      obtain ⟨q, hq⟩ : ∃ q, q = Frm.flat (l.take k) := ⟨_, rfl⟩
      rw [← hq] at HM
      have HQ := Lib.hid hq
      clear hq
      have h60 : w1.cell? ⟨wr.heap.size, 0, none⟩ = some (.int .i64 f.k) := blk_cell hb1 0
      have h61 : w1.cell? ⟨wr.heap.size, 1, none⟩ = some (.slice A1 f.d.length c1) := blk_cell hb1 1
      go_wp2_with fail
      refine HHD.out.mono ?_
      rintro e w2 ⟨vh, rfl, hvh, hi2⟩
      clear h60 HHD
      obtain ⟨Ah, ch, rfl, hlh, hCh⟩ := hvh.reads
      have HCH := Lib.hid hCh
      have hiw := In.trans (In.trans hin hin1) hi2
      have hmq := HM.out.below (In.trans hin1 hi2)
      obtain ⟨Ao, co, rfl, hlo, hCo⟩ := hmq.reads
      have HCO := Lib.hid hCo
      have HCD := Lib.hid (Kd.C_below (Kd.C_below HC1.out hin1.out) hi2.out)
      have h62 := In.cells (In.cell h61 hi2)
      clear hvh hCh hmq hCo h61 hb1
      obtain ⟨S, hS⟩ : ∃ S, S = Crc.sum (H ++ f.d) := ⟨_, rfl⟩
      obtain ⟨F4, hF4⟩ : ∃ F4, F4 = Frm.four S := ⟨_, rfl⟩
      have hSl : S < 4294967296 := by rw [hS]; exact Crc.sum_lt _
      have HFF := Lib.hid (fun (w' : World) => show Calls Try.prog 44 #[.int .u32 S] w' fun e w'' => ∃ v, e = .returned v ∧ Mine w' w'' v F4 ∧ In w' w'' from by rw [hF4]; exact four_any S w' hSl)
      have HS := Lib.hid hS.symm
      have HLL := Lib.hid (show (q ++ (H ++ (F4 ++ f.d))).length ≤ 1000000000000 by
        have := hfs.out
        rw [List.length_append, List.length_append, List.length_append, HQ.out, Frm.flat_length, HH.out, Frm.head_length, hF4, Frm.four_length]
        omega)
      have HF4 := Lib.hid hF4
      clear hS hF4 hSl
      go_upto_region 10 with (fail)
      go_region_held3 (fun w' => In w2 w') (first | exact In.drew (In.refl _) | exact In.next (by assumption) (by assumption) | exact In.alloc (by assumption) _ | assumption | (repeat (first | exact In.refl _ | assumption | apply In.drewN | apply In.drew | apply In.alloc)))
        (first
          | (go_at_call 14; (with_reducible refine Calls.mono (sumQ HS.out (RC.mk Ah H.length ch (by go_simp; done) hlh (Kd.C_below HCH.out (In.out (by assumption)))) (RC.mk A1 f.d.length c1 (by go_simp; done) hle1 (Kd.C_below HCD.out (In.out (by assumption))))) ?_); rintro e wc ⟨rfl, hic⟩; have hic0 := In.trans (show In w2 _ by assumption) hic)
          | (go_at_call 44; (with_reducible refine Calls.mono (HFF.out _) ?_); rintro e wd ⟨v4, rfl, hv4, hid⟩; have hid0 := In.trans (show In w2 _ by assumption) hid; obtain ⟨A4, c4, rfl, hl4, hC4⟩ := hv4.reads)
          | (go_at_call 43; (with_reducible refine Calls.mono (concat4 HLL.out (RC.mk Ao q.length co (by go_simp; done) hlo (Kd.C_below HCO.out (In.out (by assumption)))) (RC.mk Ah H.length ch (by go_simp; done) hlh (Kd.C_below HCH.out (In.out (by assumption)))) (RC.mk A4 F4.length c4 (by go_simp; done) hl4 (Kd.C_below hC4 (In.alloc (In.refl _) _).out)) (RC.mk A1 f.d.length c1 (by go_simp; done) hle1 (Kd.C_below HCD.out (In.out (by assumption))))) ?_); rintro e we ⟨v5, rfl, hv5, hie⟩; have hie0 := In.trans (show In w2 _ by assumption) hie))
      go_wp2_with fail
      go_roundw
      case rel =>
        refine ⟨k + 1, by omega, by go_num, Lib.hid (by rw [hpe.out, Frm.putE_step HX.out (Frm.code_good.2 hgood.out)]), ?_, In.trans hiw (show In w2 we by assumption)⟩
        rw [Frm.flat_snoc HX.out, Frm.one, ← HQ.out, ← HH.out, HS.out, ← HF4.out]
        exact hv5.lower (In.trans hiw (by first | assumption | exact In.alloc (by assumption) _))
      case measure => simp [intOf]; omega
    · obtain rfl : k = l.length := by omega
      rw [List.take_length] at HM
      have hz := Lib.hid (show Frm.putE l = 0 by rw [hpe.out, List.drop_length]; rfl)
      obtain ⟨A2, c2, rfl, _⟩ := HM.out.reads
      go_wp2_with fail
      go_ret2
      exact ⟨hin, .inl ⟨hz.out, _, rfl, HM.out⟩⟩
end Go.Proofs.Ytkoofoglcheonaa
