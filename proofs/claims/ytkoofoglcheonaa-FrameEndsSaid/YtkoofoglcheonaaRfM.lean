/- Several parts of the walks in one text (merge.py): RfA, RfB, RfC, RfD, RfE. -/
import Derived.Test.YtkoofoglcheonaaFrH
import Derived.Test.YtkoofoglcheonaaRefC
import Derived.Test.YtkoofoglcheonaaFrmCut
/- The walks of the document's frames, first part: four, One. -/
namespace Go.Proofs.Ytkoofoglcheonaa
set_option linter.unusedVariables false
set_option linter.unusedSimpArgs false
open Go.RowKit Go.Proofs.YtkoofoglcheonaaW.PrintWords

set_option maxHeartbeats 400000 in
theorem rfour_any (n : Nat) (w : World) (hn : n < 4294967296) :
    Calls Try.prog 49 #[.int .u32 n] w fun e w' => ∃ v, e = .returned v ∧ Mine w w' v (Frm.four n) ∧ In w w' := by
  have hl := Lib.hid (byte_lit w (Frm.four n) (by simp [Frm.four]))
  have h0 : (UInt8.ofNat n).toNat = n % 256 := Frm.toNat_of n
  have h1 : (UInt8.ofNat (n / 256)).toNat = n / 256 % 256 := Frm.toNat_of _
  have h2 : (UInt8.ofNat (n / 65536)).toNat = n / 65536 % 256 := Frm.toNat_of _
  have h3 : (UInt8.ofNat (n / 16777216)).toNat = n / 16777216 % 256 := Frm.toNat_of _
  have hc : encs encB (Frm.four n) = [Value.int .u8 ((n : Int) % 256), Value.int .u8 ((n : Int) / 256 % 256), Value.int .u8 ((n : Int) / 65536 % 256), Value.int .u8 ((n : Int) / 16777216)] := by
    unfold Frm.four encs encB
    rw [show n / 16777216 % 256 = n / 16777216 from by omega] at h3
    simp only [List.map_cons, List.map_nil, h0, h1, h2, h3]
    simp
  have HC := Lib.hid hc
  clear h0 h1 h2 h3 hc
  go_enter Try.func49, Try.ntmps49
  go_wp2_with fail
  go_ret
  refine ⟨_, rfl, Mine.of_own ?_, In.alloc (In.refl _) _⟩
  have := own_lit_of (enc := encB) w w.heap.size 5 (Frm.four n) (Nat.le_refl _) (by simp [Frm.four])
  rw [HC.out] at this
  rw [HC.out]
  exact this


theorem size60 : (Try.prog.info? 60).map (·.size) = some 2 := by kernel_rfl
theorem info60 : (Try.prog.info? 60).map (fun i => (i.zero, i.size, i.bytes)) = some (some (.agg #[.int .i64 0, .slice none 0 0]), 2, 32) := by kernel_rfl
theorem rsumQ {g S : Nat} {xs ys : List UInt8} {W : World} (h : Crc.sum (xs ++ ys) = S) (hl : xs.length + ys.length ≤ 10000000) (h0 : RC W g 0 xs) (h1 : RC W g 1 ys) :
    Calls Try.prog 15 #[.slice (some ⟨g, 0, none⟩) 2 2] W fun e w' => e = .returned (.int .u32 S) ∧ In W w' := by
  have := rsum_any (some ⟨g, 0, none⟩) 2 2 [xs, ys] W (rc2 h0 h1) (by simp; omega)
  simp only [List.flatten_cons, List.flatten_nil, List.append_nil] at this
  rw [h] at this
  exact this.mono fun e w' h => h
set_option maxRecDepth 100000 in
set_option maxHeartbeats 800000 in
theorem one_any {f : Fr} {cs : List Value} {w : World} (hK : frK.K w f cs) (h0 : 0 ≤ f.k) (h1 : f.k ≤ 255) (hl : f.d.length ≤ 9000000) :
    Calls Try.prog 34 #[.agg cs.toArray] w fun e w' => ∃ v, e = .returned v ∧ Mine w w' v (Frm.one f) ∧ In w w' := by
  obtain ⟨A, c, rfl, hc, hC⟩ := frK_open hK
  have hmx := (byte_len hC).2
  have hin := In.alloc (In.refl w) (.cells #[.int .i64 f.k, .slice A f.d.length c] 60)
  have hb := blk_new w (.cells #[.int .i64 f.k, .slice A f.d.length c] 60)
  have c0 := In.cells (v := .int .i64 f.k) (blk_cell hb 0)
  have c1 := In.cells (v := .slice A f.d.length c) (blk_cell hb 1)
  have hw : IntKind.u32.wrap (f.d.length : Int) = (f.d.length : Int) := wrap_u32_nat _ (by omega)
  have HKB := Lib.hid (kind_byte f.k h0 h1)
  have hCd := Lib.hid hC
  clear hb hC hK
  go_enter Try.func34, Try.ntmps34
  go_upto_region 1 with (fail)
  generalize w.alloc (.cells #[.int .i64 f.k, .slice A f.d.length c] 60) = w1 at *
  go_region_held3 (fun w' => In w1 w') (first | exact In.drew (In.refl _) | exact In.next (by assumption) (by assumption) | exact In.alloc (by assumption) _ | assumption)
    (first
      | (go_at_call 49; (with_reducible refine Calls.mono (rfour_any f.d.length _ (by omega)) ?_); rintro e wa ⟨v, rfl, hv, hia⟩; obtain ⟨A0, c0', rfl, hl0, hC0⟩ := hv.reads)
      | ((have tok := hC0; clear tok; refine Kd.R_append_rows_step byte (Rr := fun x cs => cs = [encB x]) (w0 := w1) w1.heap.size (by rfl) (.tmp 9) (.tmp 13) 34 5 (.int .u8 0) 1 (by rfl) Try.underlying34 info5 (by rfl) (by decide) (by decide) _ (Frm.four f.d.length) [UInt8.ofNat f.k.toNat] _ 1 1 (fun _ => True) (fun _ => False) (by rfl) (by rfl) (hv.at_ (by first | assumption | exact In.drew (In.refl _) | exact In.alloc (In.drew (In.refl _)) _) (by first | exact In.alloc (In.refl _) _ | exact In.refl _)) (by first | exact one_lit _ _ _ HKB.out | exact Kd.C_below (Kd.C_below (one_lit _ _ _ HKB.out) (In.drew (In.refl _)).out) hia.out) (fun _ _ h => h) (fun _ h => h.elim) (fun _ _ => trivial) (In.out (by assumption)) (In.size (by assumption)) (by rw [Frm.four_length]; omega) ?_); intro v2 w2 hR hb hg hat))
  all_goals
    obtain ⟨A2, c2, rfl⟩ := Kd.R_slice hR
    have hmh : Mine w1 w2 (.slice A2 (Frm.four f.d.length ++ [UInt8.ofNat f.k.toNat]).length c2) (Frm.head f) := hR
    have hi12 : In w1 w2 := hb
    obtain ⟨H, hH⟩ : ∃ H, H = Frm.head f := ⟨_, rfl⟩
    rw [show Frm.four f.d.length ++ [UInt8.ofNat f.k.toNat] = H from hH.symm] at hmh ⊢
    rw [← hH] at hmh
    have hHl : H.length = 5 := by rw [hH]; rfl
    have HH := Lib.hid hH
    have hCH := (Kd.R_reads' hmh).2.2
    have hleH := (Kd.R_reads' hmh).2.1
    have HMH := Lib.hid hmh
    have HCH := Lib.hid hCH
    clear hR hH hmh hCH hv hl0 hC0
    have d1 := c1 w2 hi12
    have HCD1 := Lib.hid (Kd.C_below hCd.out hin.out)
    have HCD := Lib.hid (Kd.C_below HCD1.out hi12.out)
    obtain ⟨S, hS⟩ : ∃ S, S = Crc.sum (H ++ f.d) := ⟨_, rfl⟩
    obtain ⟨F4, hF4⟩ : ∃ F4, F4 = Frm.four S := ⟨_, rfl⟩
    have hSl : S < 4294967296 := by rw [hS]; exact Crc.sum_lt _
    have hF4l : F4.length = 4 := by rw [hF4]; rfl
    have HFF := Lib.hid (fun (w' : World) => show Calls Try.prog 49 #[.int .u32 S] w' fun e w'' => ∃ v, e = .returned v ∧ Mine w' w'' v F4 ∧ In w' w'' from by rw [hF4]; exact rfour_any S w' hSl)
    have HS := Lib.hid hS.symm
    have HF4 := Lib.hid hF4
    have HHL := Lib.hid hHl
    have HFL := Lib.hid hF4l
    clear hS hF4 hSl hHl hF4l
    go_upto_region 2 with (fail)
    go_wp2_with fail
    refine (rsumQ HS.out (by rw [HHL.out]; omega) (RC.mk A2 H.length c2 (by go_simp; done) hleH (Kd.C_below HCH.out (In.alloc (In.refl _) _).out)) (RC.mk A f.d.length c (by go_simp; done) hc (Kd.C_below HCD.out (In.alloc (In.refl _) _).out))).mono ?_
    rintro e w3 ⟨rfl, hi3⟩
    have hi23 : In w2 w3 := In.trans (In.alloc (In.refl _) _) hi3
    have hi13 := In.trans hi12 hi23
    have HM3 := Lib.hid (HMH.out.below hi23)
    clear hi3 d1 c0 HCH HCD HMH
    go_upto_region 3 with (fail)
    go_region_held3 (fun w' => In w1 w') (first | exact In.drew hi13 | exact hi13 | exact hb6 | exact hb5 | exact In.next (by assumption) (by assumption) | assumption)
      (first
        | (go_at_call 49; (with_reducible refine Calls.mono (HFF.out _) ?_); rintro e wd ⟨v4, rfl, hv4, hid⟩; have hid0 := In.trans (show In w1 _ by assumption) hid; obtain ⟨A4, c4, rfl, hl4, hC4⟩ := hv4.reads)
        | ((have tok := hR5; clear tok; refine Kd.R_append_rows_step byte (Rr := fun x cs => cs = [encB x]) (w0 := w1) w1.heap.size (by rfl) (.tmp 23) (.tmp 25) 34 5 (.int .u8 0) 1 (by rfl) Try.underlying34 info5 (by rfl) (by decide) (by decide) _ (H ++ F4) f.d A f.d.length c (fun _ => True) (fun _ => False) (by rfl) (by rfl) hR5 (Kd.C_below HCD1.out hb5) (fun _ _ h => h) (fun _ h => h.elim) (fun _ _ => trivial) hb5 (Below.size hb5) (by rw [List.length_append, HHL.out, HFL.out]; omega) ?_); intro v6 w6 hR6 hb6 hg6 hat6)
        | ((have tok := hC4; clear tok; refine Kd.R_append_rows_step byte (Rr := fun x cs => cs = [encB x]) (w0 := w1) w1.heap.size (by rfl) (.tmp 20) (.tmp 22) 34 5 (.int .u8 0) 1 (by rfl) Try.underlying34 info5 (by rfl) (by decide) (by decide) _ H F4 A4 F4.length c4 (fun _ => True) (fun _ => False) (by rfl) (by rfl) (HM3.out.below (In.trans (by first | exact In.drew (In.refl _) | exact In.refl _) hid)) hC4 (fun _ _ h => h) (fun _ h => h.elim) (fun _ _ => trivial) hid0.out hid0.size (by rw [HHL.out, HFL.out]; omega) ?_); intro v5 w5 hR5 hb5 hg5 hat5))
    all_goals
      obtain ⟨A9, c9, rfl⟩ := Kd.R_slice hR6
      go_wp2_with fail
      go_ret
      refine ⟨_, rfl, ?_, In.trans hin hb6⟩
      have h9 : Mine w1 w6 (.slice A9 (H ++ F4 ++ f.d).length c9) (H ++ F4 ++ f.d) := hR6
      rw [Frm.one, ← HH.out, HS.out, ← HF4.out, ← List.append_assoc]
      exact h9.lower hin
end Go.Proofs.Ytkoofoglcheonaa

/- The walks of the document's frames, second part: what bytes begin with. -/
namespace Go.Proofs.Ytkoofoglcheonaa
set_option linter.unusedVariables false
set_option linter.unusedSimpArgs false
open Go.RowKit Go.Proofs.YtkoofoglcheonaaW.PrintWords

namespace Frm
theorem is_iff {b : List UInt8} (h : fits b) : is b ↔ ∀ i, i < 9 + (part b).d.length → (one (part b)).getD i 0 = b.getD i 0 := by
  constructor
  · intro hi i hl
    have h1 := one_part hi
    conv => rhs; rw [h1]
    rw [List.getD_eq_getElem?_getD, List.getD_eq_getElem?_getD, List.getElem?_append_left (by rw [one_length]; exact hl)]
  · intro hi
    refine ⟨h, ?_⟩
    have hl := part_len h
    have h5 : num (one (part b)) 5 = Crc.sum (b.take 5 ++ (part b).d) := by
      have h6 := num_app (head (part b)) (four (Crc.sum (head (part b) ++ (part b).d)) ++ (part b).d) 0
      rw [head_length, num_four (Crc.sum_lt _)] at h6
      rw [← head_part h]
      exact h6
    rw [← h5]
    unfold num
    rw [hi 5 (by omega), hi 6 (by omega), hi 7 (by omega), hi 8 (by omega)]
end Frm
theorem grown_cells {W w5 : World} {row : Option Nat} (hg : W.grownBy w5 row) : (∀ q o, q < W.heap.size → some q ≠ row → w5.cell? ⟨q, o, none⟩ = W.cell? ⟨q, o, none⟩) ∧ (∀ q o, q < W.heap.size → some q ≠ row → w5.frozen? ⟨q, o, none⟩ = W.frozen? ⟨q, o, none⟩) :=
  ⟨fun q o h h2 => by have := hg.block q h h2; simp [World.cell?, this], fun q o h h2 => by have := hg.block q h h2; simp [World.frozen?, this]⟩
theorem empty_next (W : World) (o : Obj) : byte.R 5 ((W.alloc o).alloc (.cells #[] 5)) W.heap.size (fun _ => True) (.slice (some ⟨W.heap.size + 1, 0, none⟩) 0 0) [] := by
  have h := (Mine.of_own (empty_mine (W.alloc o))).lower (In.alloc (In.refl W) o)
  unfold Mine at h
  simpa using h
theorem empty_next_drew (W : World) (o : Obj) : byte.R 5 ((W.alloc o).alloc (.cells #[] 5)).drew W.heap.size (fun _ => True) (.slice (some ⟨W.heap.size + 1, 0, none⟩) 0 0) [] := Kd.R_below (empty_next W o) (In.drew (In.refl _)).out
/-- What begins tells. -/
def BegPost (b : List UInt8) (w : World) (e : Ending) (w' : World) : Prop :=
  In w w' ∧ ((Frm.is b ∧ ∃ cs : List Value, e = .returned (.tuple #[.agg cs.toArray, .bool true]) ∧ frK.M w' w.heap.size (fun k => w.heap.size ≤ k) (Frm.part b) cs)
    ∨ (¬ Frm.is b ∧ e = .returned (.tuple #[.agg #[.int .i64 0, .slice none 0 0], .bool false])))
set_option maxRecDepth 100000 in
set_option maxHeartbeats 3200000 in
theorem begins_any {A : Option Addr} {n c : Nat} {b : List UInt8} {w : World} (hA : byte.C w A n b) (hc : n ≤ c) (hbl : b.length ≤ 1000000000) :
    Calls Try.prog 46 #[.slice A n c] w (BegPost b w) := by
  obtain rfl := hA.1
  have hmx := (byte_len hA).2
  by_cases h9 : b.length < 9
  · have hd : decide ((b.length : Int) < 9) = true := decide_eq_true (by omega)
    have hno := Lib.hid (show ¬ Frm.is b from fun h => by have := h.1.1; omega)
    clear hA
    go_enter Try.func46, Try.ntmps46
    go_wp2_with fail
    refine bodyPost_ret (results_ct rfl _ _ w.heap.size 60 _ (0, 0) _ rfl (blk_new w _) Try.underlying60 rfl size60) rfl ?_
    exact ⟨In.alloc (In.refl _) _, .inr ⟨hno.out, rfl⟩⟩
  · obtain ⟨ad, x0, rfl, hx0, q0⟩ := byte_at hA (j := 0) (by omega)
    obtain ⟨_, x1, hz, hx1, q1⟩ := byte_at hA (j := 1) (by omega)
    injection hz with hz; subst hz
    obtain ⟨_, x2, hz, hx2, q2⟩ := byte_at hA (j := 2) (by omega)
    injection hz with hz; subst hz
    obtain ⟨_, x3, hz, hx3, q3⟩ := byte_at hA (j := 3) (by omega)
    injection hz with hz; subst hz
    obtain ⟨_, x4, hz, hx4, q4⟩ := byte_at hA (j := 4) (by omega)
    injection hz with hz; subst hz
    rw [show ad.add 0 = ad from rfl] at q0
    rw [show ad.add 1 = ⟨ad.block, ad.off + 1, none⟩ from rfl] at q1
    rw [show ad.add 2 = ⟨ad.block, ad.off + 2, none⟩ from rfl] at q2
    rw [show ad.add 3 = ⟨ad.block, ad.off + 3, none⟩ from rfl] at q3
    rw [show ad.add 4 = ⟨ad.block, ad.off + 4, none⟩ from rfl] at q4
    have gx : ∀ (i : Nat) (x : UInt8), b[i]? = some x → b.getD i 0 = x := fun i x h => by rw [List.getD_eq_getElem?_getD, h]; rfl
    obtain ⟨m, hm⟩ : ∃ m, m = Frm.num b 0 := ⟨_, rfl⟩
    have hsum := Lib.hid (show (m : Int) = (x0.toNat : Int) + (x1.toNat : Int) * 256 + (x2.toNat : Int) * 65536 + (x3.toNat : Int) * 16777216 by
      rw [hm]
      unfold Frm.num
      rw [gx 0 x0 hx0, gx (0 + 1) x1 hx1, gx (0 + 2) x2 hx2, gx (0 + 3) x3 hx3]
      omega)
    have HX4 := Lib.hid (gx 4 x4 hx4)
    have HM := Lib.hid hm
    have HA := Lib.hid hA
    have l0 := x0.toNat_lt
    have l1 := x1.toNat_lt
    have l2 := x2.toNat_lt
    have l3 := x3.toNat_lt
    have l4 := x4.toNat_lt
    have hin := In.alloc (In.refl w) (.cells #[.int .i64 0, .slice none 0 0] 60)
    have hzb := Lib.hid (blk_new w (.cells #[.int .i64 0, .slice none 0 0] 60))
    have p0 := In.cell q0 hin
    have p1 := In.cell q1 hin
    have p2 := In.cell q2 hin
    have p3 := In.cell q3 hin
    have p4 := In.cell q4 hin
    clear hx0 hx1 hx2 hx3 hx4 q0 q1 q2 q3 q4 gx hm hA
    have hd : decide ((b.length : Int) < 9) = false := decide_eq_false (by omega)
    go_enter Try.func46, Try.ntmps46
    go_upto_region 3 with (fail)
    generalize w.alloc (.cells #[.int .i64 0, .slice none 0 0] 60) = w1 at *
    go_big_region
    go_upto_region 4 with (fail)
    rw [← hsum.out]
    have z0 : w1.cell? ⟨w.heap.size, 0, none⟩ = some (.int .i64 0) := blk_cell hzb.out 0
    have z1 : w1.cell? ⟨w.heap.size, 1, none⟩ = some (.slice none 0 0) := blk_cell hzb.out 1
    have z2 := blk_frozen hzb.out 0
    have z3 := blk_frozen hzb.out 1
    clear p0 p1 p2 p3
    by_cases hb1 : 262144 < m
    · have hd1 : decide (262144 < (m : Int)) = true := decide_eq_true (by omega)
      have hno := Lib.hid (show ¬ Frm.is b from fun h => by have := h.1.2.1; have := HM.out; omega)
      go_wp2_with fail
      refine bodyPost_ret (results_ct rfl _ _ w.heap.size 60 _ (0, 0) _ rfl (blk_put (blk_put (blk_drew hzb.out) 0 _ rfl) 1 _ rfl) Try.underlying60 rfl size60) rfl ?_
      exact ⟨In.set (In.set (In.drew hin) (Nat.le_refl _) _ _) (Nat.le_refl _) _ _, .inr ⟨hno.out, rfl⟩⟩
    have hd1 : decide (262144 < (m : Int)) = false := decide_eq_false (by omega)
    by_cases hb2 : b.length - 9 < m
    · have hd2 : decide ((b.length : Int) - 9 < (m : Int)) = true := decide_eq_true (by omega)
      have hno := Lib.hid (show ¬ Frm.is b from fun h => by have := h.1.2.2; have := HM.out; omega)
      go_wp2_with fail
      refine bodyPost_ret (results_ct rfl _ _ w.heap.size 60 _ (0, 0) _ rfl (blk_put (blk_put (blk_drew hzb.out) 0 _ rfl) 1 _ rfl) Try.underlying60 rfl size60) rfl ?_
      exact ⟨In.set (In.set (In.drew hin) (Nat.le_refl _) _ _) (Nat.le_refl _) _ _, .inr ⟨hno.out, rfl⟩⟩
    have hd2 : decide ((b.length : Int) - 9 < (m : Int)) = false := decide_eq_false (by omega)
    have hfit := Lib.hid (show Frm.fits b from ⟨by omega, by have := HM.out; omega, by have := HM.out; omega⟩)
    clear z0 z1 z2 z3
    go_upto_region 6 with (fail)
    have hin2 := In.drew (In.refl w1)
    have p4' := In.cells (In.cell p4 hin2)
    have HZB := Lib.hid (blk_drew hzb.out)
    have HA2 := Lib.hid (Kd.C_below HA.out (In.trans hin hin2).out)
    have hin02 := In.trans hin hin2
    clear p4 hin2 hd1 hd2
    generalize w1.drew = w2 at *
    clear hin
    have hw9 : IntKind.i64.wrap (9 + (m : Int)) = 9 + (m : Int) := IntWalk.i64_in _ (by omega)
    have hwx : IntKind.i64.wrap ((x4.toNat : Nat) : Int) = ((x4.toNat : Nat) : Int) := IntWalk.i64_in _ (by omega)
    have i0 : (0 : Int) ≤ 9 + (m : Int) := by omega
    have i1 : (9 : Int) ≤ 9 + (m : Int) := by omega
    have i2 : 9 + (m : Int) ≤ (c : Int) := by omega
    have i3 : (4 : Int) < (b.length : Int) := by omega
    obtain ⟨A9, c9, hcut, hle9, hF9⟩ := bcut_mid (some ad) (c := c) (n := b.length) (m := m) 9 (9 + (m : Int)) (by omega) rfl (by omega) hc
    obtain ⟨d, hdd⟩ : ∃ d : List UInt8, d = (b.drop 9).take m := ⟨_, rfl⟩
    have hCd : byte.C w2 A9 m d := by rw [hdd]; exact Kd.F_now (hF9 w2 (fun _ => True) b (Kd.F_mono (Kd.C_F Kd.heap_scalar HA2.out) (fun _ _ => trivial)))
    have hdl := hCd.1
    have HCD := Lib.hid hCd
    have HDD := Lib.hid hdd
    have HDL := Lib.hid hdl
    have HPART := Lib.hid (show Frm.part b = ⟨(x4.toNat : Int), d⟩ by unfold Frm.part; rw [← HM.out, HDD.out, HX4.out])
    clear hdd hF9 hCd hdl
    go_region_held3 (fun w' => In w2 w') (first | exact In.drew (In.refl _) | exact hb5 | exact In.next (by assumption) (by assumption) | exact In.alloc (by assumption) _ | exact In.set (In.set (by assumption) (by simp) _ _) (by simp) _ _ | assumption)
      (first
        | ((refine Kd.R_append_rows_step byte (Rr := fun x cs => cs = [encB x]) (w0 := w2) w2.heap.size (by rfl) (.tmp 48) (.tmp 52) 34 5 (.int .u8 0) 1 (by rfl) Try.underlying34 info5 (by rfl) (by decide) (by decide) (.slice (some ⟨_, 0, none⟩) 0 0) [] d A9 m c9 (fun _ => True) (fun _ => False) (by rfl) (by rfl) (by first | (with_reducible exact Mine.of_own (empty_mine w2)) | (with_reducible exact empty_next w2 _) | (with_reducible exact empty_next_drew w2 _) | exact Mine.of_own (empty_mine w2) | exact Kd.R_below (Mine.of_own (empty_mine w2)) (by repeat (first | (with_reducible first | exact Below.refl _ _ | assumption | apply below_alloc | apply pw_below_drewN | apply below_drew1))) | exact empty_next w2 _ | exact empty_next_drew w2 _) (Kd.C_below HCD.out (In.out (by assumption))) (fun _ _ h => h) (fun _ h => h.elim) (fun _ _ => trivial) (In.out (by assumption)) (In.size (by assumption)) (by simp; omega) ?_); intro v5 w5 hR5 hb5 hg5 hat5; rw [List.nil_append] at hR5; obtain ⟨A5, c5, rfl⟩ := Kd.R_slice hR5; obtain ⟨hgc, hgf⟩ := grown_cells hg5; simp only [Value.ownBlock] at hgc hgf))
    focus
      have hin5 : In w2 w5 := hb5
      have hblk := blk_new w5 (.cells #[.int .i64 (x4.toNat : Int), .slice A5 d.length c5] 60)
      have hin3 := In.alloc hin5 (.cells #[.int .i64 (x4.toNat : Int), .slice A5 d.length c5] 60)
      have hv3 := (show Mine w2 w5 (.slice A5 d.length c5) d from hR5).below (In.alloc (In.refl w5) (.cells #[.int .i64 (x4.toNat : Int), .slice A5 d.length c5] 60))
      obtain ⟨g5, hg5'⟩ : ∃ g5, g5 = w5.heap.size := ⟨_, rfl⟩
      have hgw : w2.heap.size ≤ g5 := by rw [hg5']; exact hin5.size
      have HIN3 := Lib.hid hin3
      have HV := Lib.hid hv3
      have HB := Lib.hid hblk
      clear hin3 hv3 hblk hgc hgf hin5 hR5 hb5 hg5 hat5
      rw [← hg5'] at HB ⊢
      clear hg5'
      generalize w5.alloc (.cells #[.int .i64 (x4.toNat : Int), .slice A5 d.length c5] 60) = w3 at *
    rotate_left
    focus
      have hb0 : w5.heap[w2.heap.size + 1]? = some (.cells #[.int .i64 0, .slice none 0 0] 60 (0, 0)) := (hg5.block (w2.heap.size + 1) (by simp; try omega) (by simp [Value.ownBlock])).trans (by simpa using blk_drew (blk_new (w2.alloc (.cells #[] 5)) (.cells #[.int .i64 0, .slice none 0 0] 60)))
      have hblk := blk_put (blk_put hb0 0 (.int .i64 (x4.toNat : Int)) rfl) 1 (.slice A5 d.length c5) rfl
      have hin5 : In w2 w5 := hb5
      have hin3 := In.set (In.set hin5 (g := w2.heap.size + 1) (by omega) 0 (.int .i64 (x4.toNat : Int))) (g := w2.heap.size + 1) (by omega) 1 (.slice A5 d.length c5)
      have hv3 := Mine.far (show Mine w2 w5 (.slice A5 d.length c5) d from hR5) hb0 (by decide) (w1 := (w5.setCell ⟨w2.heap.size + 1, 0, none⟩ (.int .i64 (x4.toNat : Int))).setCell ⟨w2.heap.size + 1, 1, none⟩ (.slice A5 d.length c5)) (fun i hi => by rw [Below.heap_setCell _ _ _ i hi, Below.heap_setCell _ _ _ i hi])
      obtain ⟨g5, hg5'⟩ : ∃ g5, g5 = w2.heap.size + 1 := ⟨_, rfl⟩
      have hgw : w2.heap.size ≤ g5 := by omega
      have HIN3 := Lib.hid hin3
      have HV := Lib.hid hv3
      have HB := Lib.hid hblk
      clear hin3 hv3 hblk hb0 hgc hgf hin5 hR5 hb5 hg5 hat5
      rw [← hg5'] at HIN3 HV HB ⊢
      clear hg5'
      generalize (w5.setCell ⟨g5, 0, none⟩ (.int .i64 (x4.toNat : Int))).setCell ⟨g5, 1, none⟩ (.slice A5 d.length c5) = w3 at *
    rotate_left
    focus
      have hb0 : w5.heap[w2.heap.size]? = some (.cells #[.int .i64 0, .slice none 0 0] 60 (0, 0)) := (hg5.block (w2.heap.size) (by simp; try omega) (by simp [Value.ownBlock])).trans (by simpa using blk_drew (blk_alloc (blk_new w2 (.cells #[.int .i64 0, .slice none 0 0] 60)) (.cells #[] 5)))
      have hblk := blk_put (blk_put hb0 0 (.int .i64 (x4.toNat : Int)) rfl) 1 (.slice A5 d.length c5) rfl
      have hin5 : In w2 w5 := hb5
      have hin3 := In.set (In.set hin5 (g := w2.heap.size) (by omega) 0 (.int .i64 (x4.toNat : Int))) (g := w2.heap.size) (by omega) 1 (.slice A5 d.length c5)
      have hv3 := Mine.far (show Mine w2 w5 (.slice A5 d.length c5) d from hR5) hb0 (by decide) (w1 := (w5.setCell ⟨w2.heap.size, 0, none⟩ (.int .i64 (x4.toNat : Int))).setCell ⟨w2.heap.size, 1, none⟩ (.slice A5 d.length c5)) (fun i hi => by rw [Below.heap_setCell _ _ _ i hi, Below.heap_setCell _ _ _ i hi])
      obtain ⟨g5, hg5'⟩ : ∃ g5, g5 = w2.heap.size := ⟨_, rfl⟩
      have hgw : w2.heap.size ≤ g5 := by omega
      have HIN3 := Lib.hid hin3
      have HV := Lib.hid hv3
      have HB := Lib.hid hblk
      clear hin3 hv3 hblk hb0 hgc hgf hin5 hR5 hb5 hg5 hat5
      rw [← hg5'] at HIN3 HV HB ⊢
      clear hg5'
      generalize (w5.setCell ⟨g5, 0, none⟩ (.int .i64 (x4.toNat : Int))).setCell ⟨g5, 1, none⟩ (.slice A5 d.length c5) = w3 at *
    rotate_left
    all_goals
      have hin3 := HIN3.out
      have hK5 : frK.K w3 ⟨(x4.toNat : Int), d⟩ [.int .i64 (x4.toNat : Int), .slice A5 d.length c5] := frK_mk (x := ⟨(x4.toNat : Int), d⟩) (Kd.R_reads' HV.out).2.1 (Kd.R_reads' HV.out).2.2
      have h50 : w3.cell? ⟨g5, 0, none⟩ = some (.int .i64 (x4.toNat : Int)) := blk_cell HB.out 0
      have h51 : w3.cell? ⟨g5, 1, none⟩ = some (.slice A5 d.length c5) := blk_cell HB.out 1
      obtain ⟨O, hO⟩ : ∃ O, O = Frm.one ⟨(x4.toNat : Int), d⟩ := ⟨_, rfl⟩
      have hOl : O.length = 9 + d.length := by rw [hO]; exact Frm.one_length _
      have hone : Calls Try.prog 34 #[.agg #[.int .i64 (x4.toNat : Int), .slice A5 d.length c5]] w3 fun e w' => ∃ v, e = .returned v ∧ Mine w3 w' v O ∧ In w3 w' := by
        rw [hO]
        exact one_any hK5 (show (0 : Int) ≤ (x4.toNat : Int) by omega) (show (x4.toNat : Int) ≤ 255 by omega) (show d.length ≤ 9000000 by have := HDL.out; omega)
      have HONE := Lib.hid hone
      have HO := Lib.hid hO
      have HOL := Lib.hid (show O.length = 9 + m by rw [hOl, HDL.out])
      clear hK5 hO hOl hone hcut HCD
      go_wp2_with fail
      refine HONE.out.mono ?_
      rintro e w4 ⟨v6, rfl, hv6, hi4⟩
      obtain ⟨A6, c6, rfl, hle6, hC6⟩ := hv6.reads
      have hol : O.length ≤ b.length := by rw [HOL.out]; omega
      have hobnd : O.length ≤ 1000000000 := by omega
      have hin04 := In.trans (In.trans hin02 hin3) hi4
      have HC6 := Lib.hid hC6
      have HA4 := Lib.hid (Kd.C_below HA2.out (In.trans hin3 hi4).out)
      have HZ4 := Lib.hid (blk_below (blk_below HZB.out hin3.out) hi4.out)
      have HB4 := Lib.hid (blk_below HB.out hi4.out)
      have HV4 := Lib.hid (HV.out.below hi4)
      have HISF := Lib.hid (Frm.is_iff hfit.out)
      clear hv6 hC6 h50 h51 p4' HONE HB HV HZB HA2 HA
      go_wp2_with fail
      go_loopw [7] (fun i wr => ∃ j : Nat, j ≤ O.length ∧ i = .int .i64 j ∧ Hid (∀ i, i < j → O.getD i 0 = b.getD i 0) ∧ Drawn0 w4 wr) (fun i _ => O.length - (intOf i).toNat)
      case atStart => exact ⟨0, by omega, rfl, Lib.hid (fun i h => by omega), Drawn0.refl _⟩
      case round =>
        obtain ⟨j, hj, rfl, hpre, ⟨q, rfl⟩⟩ := hrel
        by_cases hlt : j < O.length
        · obtain ⟨ad6, x, rfl, hx, hcx⟩ := byte_at HC6.out hlt
          obtain ⟨ad7, y, hz, hy, hcy⟩ := byte_at HA4.out (Nat.lt_of_lt_of_le hlt hol)
          injection hz with hz
          subst hz
          have HXX := Lib.hid (show O.getD j 0 = x by rw [List.getD_eq_getElem?_getD, hx]; rfl)
          have HYY := Lib.hid (show b.getD j 0 = y by rw [List.getD_eq_getElem?_getD, hy]; rfl)
          clear hx hy
          have hjb : j < b.length := by omega
          by_cases hxy : x = y
          · subst hxy
            have hnn : (((x.toNat : Nat) : Int) != ((x.toNat : Nat) : Int)) = false := by simp
            go_wp2_with fail
            go_quiet (fail)
            go_wp2_with fail
            go_roundw
            case rel => exact ⟨j + 1, by omega, by go_num, Lib.hid (fun i hi => by
              rcases Nat.lt_or_ge i j with h | h
              · exact hpre.out i h
              · rw [show i = j from by omega, HXX.out, HYY.out]), ⟨_, rfl⟩⟩
            case measure => simp [intOf]; omega
          · have hnn : (((x.toNat : Nat) : Int) != ((y.toNat : Nat) : Int)) = true := by
              rw [bne_iff_ne]
              intro h
              exact hxy (Frm.byte_ext (by omega))
            have hno := Lib.hid (show ¬ Frm.is b from fun h => hxy (by
              have h2 := HISF.out.1 h j (by rw [HPART.out]; show j < 9 + d.length; have := HOL.out; have := HDL.out; omega)
              rw [HPART.out, ← HO.out, HXX.out, HYY.out] at h2
              exact h2))
            have y0 : w4.cell? ⟨w.heap.size, 0, none⟩ = some (.int .i64 0) := blk_cell HZ4.out 0
            have y1 : w4.cell? ⟨w.heap.size, 1, none⟩ = some (.slice none 0 0) := blk_cell HZ4.out 1
            have y2 := blk_frozen HZ4.out 0
            have y3 := blk_frozen HZ4.out 1
            clear hxy
            go_wp2_with fail
            go_quiet (fail)
            go_wp2_with fail
            refine bodyPost_ret (results_ct rfl _ _ w.heap.size 60 _ (0, 0) _ rfl (blk_put (blk_put (blk_drewN HZ4.out _) 0 _ rfl) 1 _ rfl) Try.underlying60 rfl size60) rfl ?_
            exact ⟨In.set (In.set (In.drewN hin04 _) (Nat.le_refl _) _ _) (Nat.le_refl _) _ _, .inr ⟨hno.out, rfl⟩⟩
        · obtain rfl : j = O.length := by omega
          have hyes := Lib.hid (show Frm.is b from HISF.out.2 (fun i hi => by
            rw [HPART.out] at hi ⊢
            rw [← HO.out]
            exact hpre.out i (by have hi' : i < 9 + d.length := hi; have := HOL.out; have := HDL.out; omega)))
          have y0 : w4.cell? ⟨w.heap.size, 0, none⟩ = some (.int .i64 0) := blk_cell HZ4.out 0
          have y1 : w4.cell? ⟨w.heap.size, 1, none⟩ = some (.slice none 0 0) := blk_cell HZ4.out 1
          have y2 := blk_frozen HZ4.out 0
          have y3 := blk_frozen HZ4.out 1
          have y4 : w4.cell? ⟨g5, 0, none⟩ = some (.int .i64 (x4.toNat : Int)) := blk_cell HB4.out 0
          have y5 : w4.cell? ⟨g5, 1, none⟩ = some (.slice A5 d.length c5) := blk_cell HB4.out 1
          go_wp2_with fail
          have hwl := blk_lt HZ4.out
          have hw2l := hin02.size
          refine bodyPost_ret (results_ct rfl _ _ w.heap.size 60 _ (0, 0) _ rfl (blk_put (blk_put (blk_drewN HZ4.out q) 0 (.int .i64 (x4.toNat : Int)) rfl) 1 (.slice A5 d.length c5) rfl) Try.underlying60 rfl size60) rfl ?_
          refine ⟨In.set (In.set (In.drewN hin04 _) (Nat.le_refl _) _ _) (Nat.le_refl _) _ _, .inl ⟨hyes.out, [.int .i64 (x4.toNat : Int), .slice A5 d.length c5], rfl, ?_⟩⟩
          rw [HPART.out]
          refine frK_mkM (x := ⟨(x4.toNat : Int), d⟩) ?_
          have h1 := Mine.far (HV4.out.below (In.drewN (In.refl w4) q)) (blk_drewN HZ4.out q) (by decide) (w1 := ((w4.drewN q).setCell ⟨w.heap.size, 0, none⟩ (.int .i64 (x4.toNat : Int))).setCell ⟨w.heap.size, 1, none⟩ (.slice A5 d.length c5)) (fun i hi => by rw [Below.heap_setCell _ _ _ i hi, Below.heap_setCell _ _ _ i hi])
          exact Kd.R_mono (Kd.R_bound (Kd.R_lower h1 hw2l)) (fun k hk => hk.2.1)
end Go.Proofs.Ytkoofoglcheonaa

/- The walks of the document's frames, third part: Put. -/
namespace Go.Proofs.Ytkoofoglcheonaa
set_option linter.unusedVariables false
set_option linter.unusedSimpArgs false
open Go.RowKit Go.Proofs.YtkoofoglcheonaaW.PrintWords

set_option maxRecDepth 100000 in
set_option maxHeartbeats 3200000 in
theorem rput_any {A : Option Addr} {c : Nat} {l : List Fr} {w : World} (hA : frK.C w A l.length l) (hl : Frm.size l ≤ 9000000) :
    Calls Try.prog 26 #[.slice A l.length c] w (Puts l w) := by
  have hmx := hA.2.1
  go_enter Try.func26, Try.ntmps26
  go_wp2_with fail
  go_loopw [4, 5] (fun v i wr => ∃ k : Nat, k ≤ l.length ∧ i = .int .i64 k ∧ Hid (Frm.putE l = Frm.putE (l.drop k)) ∧ Mine w wr v (Frm.flat (l.take k)) ∧ In w wr) (fun _ i _ => l.length - (intOf i).toNat)
  case atStart => exact ⟨0, by omega, rfl, Lib.hid rfl, Mine.nil _ _, In.refl _⟩
  case round =>
    obtain ⟨k, hk, rfl, hpe, hm, hin⟩ := hrel
    have HM := Lib.hid hm
    clear hm
    by_cases hlt : k < l.length
    · obtain ⟨ad, f, A1, c1, rfl, hx, h0, h1, hle1, hC1⟩ := frK_at (Kd.C_below hA hin.out) hlt
      have HX := Lib.hid hx
      have HC1 := Lib.hid hC1
      clear hx hC1
      have hfs : Hid (Frm.size (l.take k) + (9 + f.d.length) ≤ 9000000) := Lib.hid (by rw [← Frm.size_snoc HX.out]; exact Nat.le_trans (Frm.size_le _ _) hl)
      by_cases hc1 : f.k < 0
      · have hd1 : decide (f.k < 0) = true := decide_eq_true hc1
        have hcode := Lib.hid (show Frm.putE l = 2 by rw [hpe.out]; rw [Frm.putE_stop HX.out] <;> simp [Frm.codeOf, hc1])
        go_wp2_with fail
        go_ret2
        exact ⟨hin, .inr ⟨by rw [hcode.out]; omega, by rw [hcode.out]; rfl⟩⟩
      have hd1 : decide (f.k < 0) = false := decide_eq_false hc1
      by_cases hc2 : 255 < f.k
      · have hd2 : decide (255 < f.k) = true := decide_eq_true hc2
        have hcode := Lib.hid (show Frm.putE l = 2 by rw [hpe.out]; rw [Frm.putE_stop HX.out] <;> simp [Frm.codeOf, hc2])
        go_wp2_with fail
        go_ret2
        exact ⟨hin, .inr ⟨by rw [hcode.out]; omega, by rw [hcode.out]; rfl⟩⟩
      have hd2 : decide (255 < f.k) = false := decide_eq_false hc2
      by_cases hc3 : 262144 < f.d.length
      · have hd3 : decide (262144 < (f.d.length : Int)) = true := decide_eq_true (by omega)
        have hcode := Lib.hid (show Frm.putE l = 3 by rw [hpe.out]; rw [Frm.putE_stop HX.out] <;> simp [Frm.codeOf, hc1, hc2, hc3])
        go_wp2_with fail
        go_ret2
        exact ⟨hin, .inr ⟨by rw [hcode.out]; omega, by rw [hcode.out]; rfl⟩⟩
      have hd3 : decide (262144 < (f.d.length : Int)) = false := decide_eq_false (by omega)
      have hgood := Lib.hid (show Frm.good f from ⟨by omega, by omega, by omega⟩)
      obtain ⟨O, hO⟩ : ∃ O, O = Frm.one f := ⟨_, rfl⟩
      have hone : Calls Try.prog 34 #[.agg #[.int .i64 f.k, .slice A1 f.d.length c1]] wr fun e w' => ∃ v, e = .returned v ∧ Mine wr w' v O ∧ In wr w' := by
        rw [hO]
        exact one_any (f := f) (cs := [.int .i64 f.k, .slice A1 f.d.length c1]) (frK_mk hle1 HC1.out) (by omega) (by omega) (by omega)
      have HONE := Lib.hid hone
      have HOL := Lib.hid (show O.length = 9 + f.d.length by rw [hO]; exact Frm.one_length _)
      have HO := Lib.hid hO
      obtain ⟨q, hq⟩ : ∃ q, q = Frm.flat (l.take k) := ⟨_, rfl⟩
      rw [← hq] at HM
      have HQ := Lib.hid hq
      have HQL := Lib.hid (show q.length + O.length ≤ 9000000 by rw [hq, Frm.flat_length, HOL.out]; exact hfs.out)
      clear hone hO hq
      go_upto_region 9 with (fail)
      go_wp2_with fail
      refine HONE.out.mono ?_
      rintro e w2 ⟨v2, rfl, hv2, hi2⟩
      have hin2 := In.trans hin hi2
      obtain ⟨A2, c2, rfl, hle2, hC2⟩ := hv2.reads
      have HR := Lib.hid (byte_reads hC2)
      have HM2 := Lib.hid (HM.out.below hi2)
      clear hv2 hC2
      go_wp2_with (at_builtin; refine print_append_row_of encB (0 : UInt8) (w0 := w) w.heap.size rfl (.tmp 33) (.tmp 38) 34 5 (.int .u8 0) 1 rfl Try.underlying34 info5 rfl (by decide) (fun _ => rfl) _ q O A2 O.length c2 rfl rfl HM2.out.own HR.out hin2 hin2.size (by have := HQL.out; omega) ?_)
      intro v3 w3 ho3 hb3 hg3 hat3
      go_wp2_with fail
      go_roundw
      case rel => exact ⟨k + 1, by omega, by go_num, Lib.hid (by rw [hpe.out, Frm.putE_step HX.out (Frm.code_good.2 hgood.out)]), by rw [Frm.flat_snoc HX.out, ← HQ.out, ← HO.out]; exact Mine.of_own2 ho3 (by rw [List.length_append]), hb3⟩
      case measure => simp [intOf]; omega
    · obtain rfl : k = l.length := by omega
      rw [List.take_length] at HM
      have hz := Lib.hid (show Frm.putE l = 0 by rw [hpe.out, List.drop_length]; rfl)
      obtain ⟨A2, c2, rfl, _⟩ := HM.out.reads
      go_wp2_with fail
      go_ret2
      exact ⟨hin, .inl ⟨hz.out, _, rfl, HM.out⟩⟩
end Go.Proofs.Ytkoofoglcheonaa

/- The walks of the document's frames, fourth part: Get. -/
namespace Go.Proofs.Ytkoofoglcheonaa
set_option linter.unusedVariables false
set_option linter.unusedSimpArgs false
open Go.RowKit Go.Proofs.YtkoofoglcheonaaW.PrintWords

/-- What Get of the document tells. -/
def RGot (b : List UInt8) (w : World) (e : Ending) (w' : World) : Prop :=
  ∃ A c, e = .returned (.tuple #[.slice A (Frm.get b).length c, .int .i64 (Frm.size (Frm.get b))]) ∧ frK.C w' A (Frm.get b).length (Frm.get b) ∧ In w w'
/-- What stands between two rounds: the frames so far, those still to come, the next one in its variable. -/
def RState (b : List UInt8) (w wr : World) (g : Nat) (n : Nat) (v : Value) (l : List Fr) (okb : Bool) : Prop :=
  Frm.get b = l ++ Frm.get (b.drop (Frm.size l)) ∧ Frm.size l ≤ b.length ∧ n = Frm.size l ∧ In w wr ∧ w.heap.size ≤ g ∧
    ∃ H x v6, frK.R 60 wr w.heap.size (fun k => k ≠ g ∧ k < H) v l ∧ wr.heap[g]? = some (.cells #[x, v6] 60 (0, 0)) ∧
      (okb = false → ¬ Frm.is (b.drop (Frm.size l))) ∧ (okb = true → Frm.is (b.drop (Frm.size l)) ∧ x = .int .i64 (Frm.part (b.drop (Frm.size l))).k ∧ byte.R 5 wr w.heap.size (fun k => k ≠ g ∧ H ≤ k) v6 (Frm.part (b.drop (Frm.size l))).d)
set_option maxRecDepth 100000 in
set_option maxHeartbeats 3200000 in
theorem rget_any {A : Option Addr} {n c : Nat} {b : List UInt8} {w : World} (hA : byte.C w A n b) (hc : n ≤ c) (hbl : b.length ≤ 1000000) :
    Calls Try.prog 29 #[.slice A n c] w (RGot b w) := by
  obtain rfl := hA.1
  have HA := Lib.hid hA
  have HB := Lib.hid (begins_any hA hc (by omega))
  clear hA
  go_enter Try.func29, Try.ntmps29
  go_wp2_with fail
  refine HB.out.mono ?_
  rintro e w1 ⟨hin1, ⟨hy, cs, rfl, hM⟩ | ⟨hno, rfl⟩⟩
  case' inl =>
    obtain ⟨v, rfl, hvd⟩ := frK_openM hM
    obtain ⟨A1, c1, rfl⟩ := Kd.R_slice hvd
    generalize hF : Frm.part b = f at *
    have hS : RState b w (w1.alloc (.cells #[.int .i64 f.k, .slice A1 f.d.length c1] 60)) w1.heap.size 0 (.slice none 0 0) [] true := by
      refine ⟨by simp [Frm.size], Nat.zero_le _, rfl, In.alloc hin1 _, hin1.size, 0, _, _, Kd.R_nil _ _ _ _ _, blk_new _ _, by simp, fun _ => ?_⟩
      rw [show b.drop (Frm.size []) = b from rfl, hF]
      exact ⟨hy, rfl, Kd.R_mono (Kd.R_bound (Kd.R_alloc (Kd.R_bound hvd) _)) (fun k hk => ⟨by have := hk.1.2.2.1; omega, Nat.zero_le _⟩)⟩
    have HS := Lib.hid hS
    clear hM hvd hS hy hF
    go_wp2_with fail
    obtain ⟨g6, hg6⟩ : ∃ g6, g6 = w1.heap.size := ⟨_, rfl⟩
    rw [← hg6] at HS ⊢
    generalize w1.alloc (.cells #[.int .i64 f.k, .slice A1 f.d.length c1] 60) = w2 at *
    clear hg6 HB hin1
  case' inr =>
    have hS : RState b w (w1.alloc (.cells #[.int .i64 0, .slice none 0 0] 60)) w1.heap.size 0 (.slice none 0 0) [] false := by
      refine ⟨by simp [Frm.size], Nat.zero_le _, rfl, In.alloc hin1 _, hin1.size, 0, _, _, Kd.R_nil _ _ _ _ _, blk_new _ _, fun _ => hno, by simp⟩
    have HS := Lib.hid hS
    clear hS hno
    go_wp2_with fail
    obtain ⟨g6, hg6⟩ : ∃ g6, g6 = w1.heap.size := ⟨_, rfl⟩
    rw [← hg6] at HS ⊢
    generalize w1.alloc (.cells #[.int .i64 0, .slice none 0 0] 60) = w2 at *
    clear hg6 HB hin1
  all_goals
    go_loopg [4, 5, 7] (b.length + 1) (fun kq v i okv wr => ∃ (l : List Fr) (okb : Bool) (n : Nat), i = .int .i64 n ∧ okv = .bool okb ∧ Hid (b.length < n + kq) ∧ Hid (RState b w wr g6 n v l okb))
    case atStart => exact ⟨_, _, 0, rfl, rfl, Lib.hid (by omega), HS⟩
    case round =>
      clear HS
      obtain ⟨l, okb, n, rfl, rfl, hk, hst⟩ := hrel
      cases okb with
      | false =>
        obtain ⟨h1, h2, h3, h4, h5, H, x, v6, hR, hblk, hno, _⟩ := hst.out
        obtain ⟨A4, c4, rfl⟩ := Kd.R_slice hR
        have hfin := Lib.hid (show Frm.get b = l by rw [h1, Frm.get_no (hno rfl), List.append_nil])
        have hC := (Kd.R_reads' hR).2.2
        have H3 := Lib.hid h3
        clear h1 h2 h3 hR hblk hno
        go_wp2_with fail
        go_ret2
        refine ⟨A4, c4, by rw [hfin.out, H3.out]; rfl, by rw [hfin.out]; exact hC, h4⟩
      | true =>
        obtain ⟨h1, h2, h3, h4, h5, H, x, v6, hR, hblk, _, hyes⟩ := hst.out
        obtain ⟨hy, rfl, hv6⟩ := hyes rfl
        obtain ⟨A6, c6, rfl⟩ := Kd.R_slice hv6
        have hlen := Frm.is_len hy
        rw [List.length_drop] at hlen
        obtain ⟨k1, rfl⟩ : ∃ k1, gk = k1 + 1 := ⟨gk - 1, by have := hk.out; omega⟩
        obtain ⟨f, hF⟩ : ∃ f, f = Frm.part (b.drop (Frm.size l)) := ⟨_, rfl⟩
        rw [← hF] at hv6 hlen hblk
        have hsz : Frm.size (l ++ [f]) = n + 9 + f.d.length := by rw [Frm.size_append, h3, Frm.size, Frm.size]; omega
        have hg2 := Lib.hid (show Frm.get b = (l ++ [f]) ++ Frm.get (b.drop (n + 9 + f.d.length)) by
          rw [h1, Frm.get_yes hy, ← hF, List.drop_drop, List.append_assoc, ← h3]
          congr 2
          rw [Nat.add_assoc]
          rfl)
        have hll : l.length ≤ 1000000 := by have := Frm.len_size l; omega
        have hnl : n + 9 + f.d.length ≤ b.length := by omega
        have HSZ := Lib.hid hsz
        have HK := Lib.hid hk.out
        have HR := Lib.hid hR
        have HV6 := Lib.hid hv6
        have HBK := Lib.hid hblk
        have x0 : wr.cell? ⟨g6, 0, none⟩ = some (.int .i64 f.k) := blk_cell hblk 0
        have x1 : wr.cell? ⟨g6, 1, none⟩ = some (.slice A6 f.d.length c6) := blk_cell hblk 1
        have hgl := blk_lt hblk
        have hbound : n ≤ 1000000 := by omega
        clear h1 h2 h3 hR hv6 hblk hyes hy hF hsz hk hst hlen
        go_wp2_with (at_builtin; refine Kd.R_append frK (w0 := w) w.heap.size rfl (.tmp 14) (.tmp 16) 50 60 (.agg #[.int .i64 0, .slice none 0 0]) 32 rfl Try.underlying50 info60 rfl (by decide) (by decide) u4 l f [.int .i64 f.k, .slice A6 f.d.length c6] (fun k => k ≠ g6) (fun k => k ≠ g6 ∧ H ≤ k) rfl (by first | rfl | (go_simp; done)) (frK_mkM HV6.out) (fun k hk => ⟨hk.1, fun he => by have := HR.out.1 k he.symm; omega⟩) (fun k hk => by omega) (Kd.R_mono HR.out (fun k hk => hk.1)) h4.out h4.size (by omega) ?_)
        intro v3 w3 hv3 hb3 hg3 hat3
        have hgne : some g6 ≠ u4.ownBlock := fun he => (HR.out.1 g6 he.symm).1 rfl
        have hblk3 := (hg3.block g6 hgl hgne).trans HBK.out
        have hin3 : In w w3 := hb3
        have x2 : w3.cell? ⟨g6, 0, none⟩ = some (.int .i64 f.k) := blk_cell hblk3 0
        have x3 : w3.cell? ⟨g6, 1, none⟩ = some (.slice A6 f.d.length c6) := blk_cell hblk3 1
        have hg3l := blk_lt hblk3
        obtain ⟨A3, c3, rfl⟩ := Kd.R_slice hv3
        have HV3 := Lib.hid (show frK.R 60 w3 w.heap.size (fun k => k ≠ g6) (.slice A3 (l.length + 1) c3) (l ++ [f]) by
          have h := hv3
          rw [show (l ++ [f]).length = l.length + 1 from by simp] at h
          exact h)
        have HB3 := Lib.hid hblk3
        obtain ⟨M, hM⟩ : ∃ M : Nat, b.length = n + 9 + f.d.length + M := ⟨b.length - (n + 9 + f.d.length), by omega⟩
        obtain ⟨A8, c8, hcut8, hle8, hF8⟩ := bcut_from A (c := c) (n := b.length) (m := M) ((n : Int) + 9 + (f.d.length : Int)) (by omega) (by omega) hc
        have hC8 := Kd.F_now (hF8 w3 (fun _ => True) b (Kd.F_mono (Kd.C_F Kd.heap_scalar (Kd.C_below HA.out hin3.out)) (fun _ _ => trivial)))
        rw [show ((n : Int) + 9 + (f.d.length : Int)).toNat = n + 9 + f.d.length from by omega] at hC8
        have hMl : M ≤ 1000000 := by omega
        have hMe := Lib.hid hM
        obtain ⟨b2, hb2⟩ : ∃ b2, b2 = b.drop (n + 9 + f.d.length) := ⟨_, rfl⟩
        rw [← hb2] at hC8
        have HB2 := Lib.hid hb2
        have HBG := Lib.hid (begins_any hC8 hle8 (by rw [hC8.1]; omega))
        clear hb2 hC8 hM hF8 hgne hblk3 hv3 hb3 hg3 hat3 x0 x1
        go_wp2_with fail
        refine HBG.out.mono ?_
        rintro e w4 ⟨hin4, ⟨hy2, cs2, rfl, hM2⟩ | ⟨hno2, rfl⟩⟩
        · obtain ⟨v7, rfl, hvd7⟩ := frK_openM hM2
          obtain ⟨A7, c7, rfl⟩ := Kd.R_slice hvd7
          obtain ⟨f2, hF2⟩ : ∃ f2, f2 = Frm.part b2 := ⟨_, rfl⟩
          rw [← hF2] at hvd7 ⊢
          have HF2 := Lib.hid hF2
          have hb4 := blk_below HB3.out hin4.out
          have y0 : w4.cell? ⟨g6, 0, none⟩ = some (.int .i64 f.k) := blk_cell hb4 0
          have y1 : w4.cell? ⟨g6, 1, none⟩ = some (.slice A6 f.d.length c6) := blk_cell hb4 1
          have y2 := blk_frozen hb4 0
          have y3 := blk_frozen hb4 1
          have HB4 := Lib.hid hb4
          have HVD := Lib.hid hvd7
          clear hM2 hvd7 hF2 hb4 x2 x3
          go_wp2_with fail
          have hmv : ∀ i, i ≠ g6 → ((w4.setCell ⟨g6, 0, none⟩ (.int .i64 f2.k)).setCell ⟨g6, 1, none⟩ (.slice A7 f2.d.length c7)).heap[i]? = w4.heap[i]? := fun i hi => by rw [Below.heap_setCell _ _ _ i hi, Below.heap_setCell _ _ _ i hi]
          go_roundg k1
          case measure => omega
          case rel =>
            refine ⟨l ++ [f], true, n + 9 + f.d.length, by go_num, rfl, Lib.hid (by have := HK.out; omega), Lib.hid ⟨by rw [HSZ.out]; exact hg2.out, by rw [HSZ.out]; exact hnl, HSZ.out.symm, In.set (In.set (In.trans hin3 hin4) h5 _ _) h5 _ _, h5, w3.heap.size, _, _, ?_, blk_put (blk_put HB4.out 0 _ rfl) 1 _ rfl, by simp, fun _ => ?_⟩⟩
            · exact Kd.R_step (Kd.R_mono (Kd.R_bound HV3.out |> fun h => Kd.R_below h hin4.out) (fun k hk => ⟨hk.1, hk.2.2.1⟩)) (fun k hk _ => hmv k hk.1)
            · rw [HSZ.out, ← HB2.out, ← HF2.out]
              refine ⟨hy2, rfl, Kd.R_lower (Kd.R_mono (Kd.R_step (Kd.R_bound HVD.out) (fun k hk _ => hmv k (by have := hk.2.1; omega))) (fun k hk => ⟨by have := hk.2.1; omega, hk.2.1⟩)) hin3.size⟩
        · have hb4 := blk_below HB3.out hin4.out
          have y0 : w4.cell? ⟨g6, 0, none⟩ = some (.int .i64 f.k) := blk_cell hb4 0
          have y1 : w4.cell? ⟨g6, 1, none⟩ = some (.slice A6 f.d.length c6) := blk_cell hb4 1
          have y2 := blk_frozen hb4 0
          have y3 := blk_frozen hb4 1
          have HB4 := Lib.hid hb4
          have HNO := Lib.hid hno2
          clear hb4 x2 x3 hno2
          go_wp2_with fail
          have hmv : ∀ i, i ≠ g6 → ((w4.setCell ⟨g6, 0, none⟩ (.int .i64 0)).setCell ⟨g6, 1, none⟩ (.slice none 0 0)).heap[i]? = w4.heap[i]? := fun i hi => by rw [Below.heap_setCell _ _ _ i hi, Below.heap_setCell _ _ _ i hi]
          go_roundg k1
          case measure => omega
          case rel =>
            refine ⟨l ++ [f], false, n + 9 + f.d.length, by go_num, rfl, Lib.hid (by have := HK.out; omega), Lib.hid ⟨by rw [HSZ.out]; exact hg2.out, by rw [HSZ.out]; exact hnl, HSZ.out.symm, In.set (In.set (In.trans hin3 hin4) h5 _ _) h5 _ _, h5, w3.heap.size, _, _, ?_, blk_put (blk_put HB4.out 0 _ rfl) 1 _ rfl, fun _ => by rw [HSZ.out, ← HB2.out]; exact HNO.out, by simp⟩⟩
            exact Kd.R_step (Kd.R_mono (Kd.R_bound HV3.out |> fun h => Kd.R_below h hin4.out) (fun k hk => ⟨hk.1, hk.2.2.1⟩)) (fun k hk _ => hmv k hk.1)
end Go.Proofs.Ytkoofoglcheonaa

/- The walks of layer 3's law: same, turned, the lists. -/
namespace Go.Proofs.Ytkoofoglcheonaa
set_option linter.unusedVariables false
set_option linter.unusedSimpArgs false
open Go.RowKit Go.Proofs.YtkoofoglcheonaaW.PrintWords

set_option maxHeartbeats 800000 in
theorem same3_any {A B : Option Addr} {c d : Nat} {xs : List Fr} {w : World} (hA : frK.C w A xs.length xs) (hB : frK.C w B xs.length xs) :
    Calls Try.prog 31 #[.slice A xs.length c, .slice B xs.length d] w fun e w' => e = .returned (.bool true) ∧ Drawn0 w w' := by
  have hm := hA.2.1
  go_enter Try.func31, Try.ntmps31
  go_wp2_with fail
  go_loopw [5] (fun i wr => ∃ j : Nat, j ≤ xs.length ∧ i = .int .i64 j ∧ Drawn0 w wr) (fun i _ => xs.length - (intOf i).toNat)
  case atStart => exact ⟨0, by omega, rfl, Drawn0.refl _⟩
  case round =>
    obtain ⟨j, hj, rfl, ⟨m, rfl⟩⟩ := hrel
    by_cases hl : j < xs.length
    · obtain ⟨ad, x, A1, c1, rfl, hx, h0, h1, hle1, hC1⟩ := frK_at hA hl
      obtain ⟨ad2, x2, A2, c2, rfl, hx2, k0, k1, hle2, hC2⟩ := frK_at hB hl
      obtain rfl : x = x2 := by rw [hx] at hx2; exact Option.some.inj hx2
      have HC := Lib.hid (fun q : Nat => quiet_drawn (n := q) (m := m) (w := w) (same_any (c := c1) (d := c2) (Kd.C_below hC1 (pw_below_drewN (Below.refl _ _) _)) (Kd.C_below hC2 (pw_below_drewN (Below.refl _ _) _))))
      clear hx hx2 hC1 hC2
      have hne : ((x.k : Int) != x.k) = false := by simp
      go_wp2_with fail
      go_quiet ((go_at_call 30; exact HC.out _))
      go_wp2_with fail
      go_roundw
      case rel => exact ⟨j + 1, by omega, by go_num, ⟨_, rfl⟩⟩
      case measure => simp [intOf]; omega
    · obtain rfl : j = xs.length := by omega
      go_wp2_with fail
      go_ret
      exact ⟨rfl, ⟨_, rfl⟩⟩
theorem same3_n {A B : Option Addr} {n c d : Nat} {xs : List Fr} {w : World} (hA : frK.C w A n xs) (hB : frK.C w B n xs) :
    Calls Try.prog 31 #[.slice A n c, .slice B n d] w fun e w' => e = .returned (.bool true) ∧ Drawn0 w w' := by
  obtain rfl := hA.1
  exact same3_any hA hB
theorem frK_heap : Kd.Heap frK := Kd.heap_iso _ (Kd.heap_pair (Kd.heap_int _) (Kd.heap_slice 5 Kd.heap_scalar))
theorem bytes_heap : Kd.Heap byte := Kd.heap_scalar
theorem F_one {W : World} {okp : Nat → Prop} {f : Fr} {x y : Value} {e : TypeId} (hFK : Kd.FK frK W okp f [x, y]) : Kd.F frK (W.alloc (.cells #[x, y] e)) (fun k => (okp k ∧ k < W.heap.size) ∨ k = W.heap.size) (some ⟨W.heap.size, 0, none⟩) 1 [f] := fun W' hW => by
  have hb : W'.heap[W.heap.size]? = some (.cells #[x, y] e (0, 0)) := (hW _ (.inr rfl) (by simp)).trans (blk_new W _)
  have hK : frK.K W' f [x, y] := hFK W' (fun k hk hlt => (hW k (.inl ⟨hk, hlt⟩) (by simp; omega)).trans (Below.heap_alloc _ _ _ (by omega)))
  refine ⟨rfl, by omega, fun _ => ⟨_, rfl, fun j p hp => ?_⟩⟩
  match j, hp with
  | 0, hp =>
    cases hp
    refine ⟨[x, y], rfl, hK, fun i u hu => ?_⟩
    rw [show (0 * frK.sz + i) = i from by omega, add_plain, blk_cell hb i, ← hu, List.getElem?_toArray]
set_option maxRecDepth 100000 in
set_option maxHeartbeats 1600000 in
theorem turned_any {A : Option Addr} {c : Nat} {l : List Fr} {w : World} (hA : frK.C w A l.length l) (hl : l.length ≤ 1000000) :
    Calls Try.prog 27 #[.slice A l.length c] w fun e w' => ∃ B d, e = .returned (.slice B l.length d) ∧ frK.C w' B l.length l ∧ In w w' := by
  go_enter Try.func27, Try.ntmps27
  go_wp2_with fail
  go_loopw [3, 4] (fun v i wr => ∃ k : Nat, k ≤ l.length ∧ i = .int .i64 k ∧ Kd.N frK 60 wr w.heap.size (fun _ => True) v (l.take k) ∧ In w wr) (fun _ i _ => l.length - (intOf i).toNat)
  case atStart => exact ⟨0, by omega, rfl, Kd.N_nil _ _ _ _ _, In.refl _⟩
  case round =>
    obtain ⟨k, hk, rfl, hN, hin⟩ := hrel
    by_cases hlt : k < l.length
    · obtain ⟨ad, f, A1, c1, rfl, hx, h0, h1, hle1, hC1⟩ := frK_at (Kd.C_below hA hin.out) hlt
      have HX := Lib.hid hx
      have hFK : Kd.FK frK wr (fun k => k < w.heap.size) f [.int .i64 f.k, .slice A1 f.d.length c1] := by
        have hcell := frK_at hA hlt
        obtain ⟨ad', f', A1', c1', he, hx', h0', h1', hle1', hC1'⟩ := hcell
        injection he with he
        subst he
        obtain rfl : f = f' := by rw [hx] at hx'; exact Option.some.inj hx'
        have e1 : (Value.slice A1 f.d.length c1) = .slice A1' f.d.length c1' := by
          have := In.cell h1' hin
          rw [h1] at this
          exact Option.some.inj this
        rw [e1]
        refine Kd.FK_step (ok := fun k => k < w.heap.size) (W := w) (fun W' hW => frK_mk hle1' (Kd.heap_scalar.C (fun k hlt => hW k hlt hlt) hC1')) (fun k hk _ => hin.out.block k hk)
      have HFK := Lib.hid hFK
      have HN := Lib.hid hN
      have hlk : (l.take k).length = k := by rw [List.length_take]; omega
      have HLK := Lib.hid hlk
      have k0 : ∀ w', (In w w' ∧ (∀ k, k < w.heap.size → True)) → w'.cell? (ad.add (k * 2)) = some (.int .i64 f.k) := fun w' h => by
        obtain ⟨ad', f', A1', c1', he, hx', h0', h1', hle1', hC1'⟩ := frK_at hA hlt
        injection he with he
        subst he
        obtain rfl : f = f' := by rw [hx] at hx'; exact Option.some.inj hx'
        exact In.cell h0' h.1
      have k1 : ∀ w', (In w w' ∧ (∀ k, k < w.heap.size → True)) → w'.cell? ⟨(ad.add (k * 2)).block, (ad.add (k * 2)).off + 1, none⟩ = some (.slice A1 f.d.length c1) := fun w' h => by
        obtain ⟨ad', f', A1', c1', he, hx', h0', h1', hle1', hC1'⟩ := frK_at hA hlt
        injection he with he
        subst he
        obtain rfl : f = f' := by rw [hx] at hx'; exact Option.some.inj hx'
        have e1 := In.cell h1' hin
        rw [h1] at e1
        rw [Option.some.inj e1]
        exact In.cell h1' h.1
      have HAP := Lib.hid (show ∀ k, (k < w.heap.size ∧ k < wr.heap.size) ∨ k = wr.heap.size → True ∧ some k ≠ u3.ownBlock from fun k hk => ⟨trivial, fun he => by
        have h1 := Kd.N_base HN.out k he.symm
        have h2 := Kd.N_lt HN.out k he.symm
        omega⟩)
      clear hx hC1 hFK hN hlk h0 h1
      obtain ⟨q, hq⟩ : ∃ q, q = l.take k := ⟨_, rfl⟩
      rw [← hq] at HN HLK
      have HQ := Lib.hid hq
      clear hq
      have j0 : (0 : Int) ≤ (k : Int) := by omega
      have j1 : (k : Int) < (l.length : Int) := by omega
      go_upto_region 5 with (fail)
      go_region_held3 (fun w' => In w w' ∧ (∀ k, k < w.heap.size → True)) (first | exact ⟨In.drew hin, fun _ _ => trivial⟩ | exact ⟨hb5, fun _ _ => trivial⟩ | exact ⟨In.alloc (In.drew hin) _, fun _ _ => trivial⟩ | assumption)
        (first
          | ((have tok := HN; refine Kd.N_append_rows_step frK (w0 := w) w.heap.size (by rfl) (.tmp 11) (.tmp 23) 50 60 (.agg #[.int .i64 0, .slice none 0 0]) 32 (by rfl) Try.underlying50 info60 (by rfl) (by decide) (by decide) u3 q [f] (some ⟨wr.heap.size, 0, none⟩) 1 1 (fun _ => True) (fun k => (k < w.heap.size ∧ k < wr.heap.size) ∨ k = wr.heap.size) (by rfl) (by rfl) (by first | exact Kd.N_drew (Kd.N_alloc HN.out _) | exact Kd.N_alloc HN.out _ | exact Kd.N_alloc (Kd.N_drew HN.out) _) (by first | exact Kd.F_drew (F_one HFK.out) | exact F_one HFK.out) HAP.out (fun _ _ => trivial) (by first | exact (In.drew (In.alloc hin _)).out | exact (In.alloc hin _).out | exact (In.alloc (In.drew hin) _).out) (by first | exact (In.drew (In.alloc hin _)).size | exact (In.alloc hin _).size) (by rw [HLK.out]; omega) ?_); intro v5 w5 hN5 hb5 hg5 hat5))
      go_wp2_with fail
      go_roundw
      case rel => exact ⟨k + 1, by omega, by go_num, by rw [List.take_add_one, HX.out, ← HQ.out]; exact hN5, hb5⟩
      case measure => simp [intOf]; omega
    · obtain rfl : k = l.length := by omega
      rw [List.take_length] at hN
      obtain ⟨B, d, rfl⟩ := Kd.N_slice hN
      have hC := (Kd.N_reads' hN).2.2
      clear hN
      go_wp2_with fail
      go_ret
      exact ⟨B, d, rfl, hC, hin⟩
end Go.Proofs.Ytkoofoglcheonaa
