/- The walks of package frame, fifth part: the next frame, where its length fits. -/
import Derived.Test.YtkoofoglcheonaaFrD
namespace Go.Proofs.Ytkoofoglcheonaa
set_option linter.unusedVariables false
set_option linter.unusedSimpArgs false
open Go.RowKit Go.Proofs.YtkoofoglcheonaaW.PrintWords

theorem sumQ {g S : Nat} {xs ys : List UInt8} {W : World} (h : Crc.sum (xs ++ ys) = S) (h0 : RC W g 0 xs) (h1 : RC W g 1 ys) :
    Calls Try.prog 14 #[.slice (some ⟨g, 0, none⟩) 2 2] W fun e w' => e = .returned (.int .u32 S) ∧ In W w' := by
  have := sum_any _ 2 2 [xs, ys] W (rc2 h0 h1)
  simp only [List.flatten_cons, List.flatten_nil, List.append_nil] at this
  rw [h] at this
  exact this
theorem In.name {W w : World} (h : In W w) : ∃ w4, w4 = w ∧ In W w4 := ⟨w, rfl, h⟩
theorem new_two0 (W : World) (n : Nat) (u v : Value) (t : TypeId) : ((W.drewN n).alloc (.cells #[u, v] t)).cell? ⟨W.heap.size, 0, none⟩ = some u := by
  have h := blk_cell (blk_new (W.drewN n) (.cells #[u, v] t)) 0
  simpa using h
theorem new_two1 (W : World) (n : Nat) (u v : Value) (t : TypeId) : ((W.drewN n).alloc (.cells #[u, v] t)).cell? ⟨W.heap.size, 1, none⟩ = some v := by
  have h := blk_cell (blk_new (W.drewN n) (.cells #[u, v] t)) 1
  simpa using h
theorem Mine.far {W w : World} {v : Value} {xs : List UInt8} (h : Mine W w v xs) {g t : Nat} {cells : Array Value} (hb : w.heap[g]? = some (.cells cells t (0, 0))) (ht : 5 ≠ t) {w1 : World} (hm : ∀ i, i ≠ g → w1.heap[i]? = w.heap[i]?) : Mine W w1 v xs :=
  Kd.R_mono (Kd.R_step (Kd.R_types h hb (fun q hq => by
    have : q = 5 := by simpa [byte, Kd.scalar] using hq
    rw [this]
    exact ht)) (fun k ho _ => hm k ho.2)) (fun _ _ => trivial)
theorem next_end {p : Nat} {w w4 : World} {v s6 : Value} {d : List UInt8} {C0 : Array Value} (n x : Value) (hC : (C0.setIfInBounds 0 s6).setIfInBounds 1 n = #[s6, n]) (hIn : In w w4) (hpl : p < w.heap.size) (HP : w4.heap[p]? = some (.cells C0 83 (0, 0)))
    (hz : w4.heap[w.heap.size]? = some (.cells #[.int .i64 0, .slice none 0 0] 44 (0, 0))) (hv : byte.R 5 w4 (w.heap.size + 1) (fun _ => True) v d) {w' : World} (hw' : w' = ((((w4.setCell ⟨p, 0, none⟩ s6).setCell ⟨p, 1, none⟩ n).drew).setCell ⟨w.heap.size, 0, none⟩ x).setCell ⟨w.heap.size, 1, none⟩ v) :
    w'.heap[w.heap.size]? = some (.cells #[x, v] 44 (0, 0)) ∧ byte.R 5 w' w.heap.size (fun k => w.heap.size ≤ k) v d ∧ w'.heap[p]? = some (.cells #[s6, n] 83 (0, 0)) ∧ Kept w w' (fun k => k = p) ∧ Below 0 w w' := by
  subst hw'
  have hne : w.heap.size ≠ p := by omega
  have hne2 : p ≠ w.heap.size := by omega
  have hmv : ∀ i, i ≠ p → i ≠ w.heap.size → (((((w4.setCell ⟨p, 0, none⟩ s6).setCell ⟨p, 1, none⟩ n).drew).setCell ⟨w.heap.size, 0, none⟩ x).setCell ⟨w.heap.size, 1, none⟩ v).heap[i]? = w4.heap[i]? := fun i h1 h2 => by
    rw [Below.heap_setCell _ _ _ i h2, Below.heap_setCell _ _ _ i h2]
    show ((w4.setCell ⟨p, 0, none⟩ s6).setCell ⟨p, 1, none⟩ n).heap[i]? = _
    rw [Below.heap_setCell _ _ _ i h1, Below.heap_setCell _ _ _ i h1]
  refine ⟨?_, ?_, ?_, ⟨?_, fun i hi hn => ?_⟩, ?_⟩
  · refine blk_put (blk_put (cs := #[.int .i64 0, .slice none 0 0]) (t := 44) ?_ 0 x rfl) 1 v rfl
    show ((w4.setCell ⟨p, 0, none⟩ s6).setCell ⟨p, 1, none⟩ n).heap[w.heap.size]? = _
    rw [Below.heap_setCell _ _ _ _ hne, Below.heap_setCell _ _ _ _ hne]
    exact hz
  · refine Kd.R_lower (Kd.R_mono (Kd.R_step (Kd.R_bound hv) (fun k hk hlt => hmv k (by have := hk.2.1; omega) (by have := hk.2.1; omega))) (fun k hk => by have := hk.2.1; omega)) (Nat.le_succ _)
  · rw [Below.heap_setCell _ _ _ _ hne2, Below.heap_setCell _ _ _ _ hne2]
    exact blk_drew (blk_put (blk_put HP 0 s6 rfl) 1 n hC)
  · have := hIn.size
    simpa [World.setCell] using this
  · rw [hmv i hn (by omega)]
    exact hIn.out.block i hi
  · exact ((((((Below.mono hIn.out (Nat.zero_le _)).setCell (p := ⟨p, 0, none⟩) (Nat.zero_le _) _).setCell (p := ⟨p, 1, none⟩) (Nat.zero_le _) _).drew).setCell (p := ⟨w.heap.size, 0, none⟩) (Nat.zero_le _) _).setCell (p := ⟨w.heap.size, 1, none⟩) (Nat.zero_le _) _)
/-- There is a next frame, or none. -/
def NextPost (p : Nat) (ok : Nat → Prop) (b : List UInt8) (at_ : Nat) (w : World) (e : Ending) (w' : World) : Prop :=
  (Frm.is b ∧ ∃ cs : List Value, e = .returned (.tuple #[.agg cs.toArray, .bool true]) ∧ frK.M w' w.heap.size (fun k => w.heap.size ≤ k) (Frm.part b) cs ∧ Rdr w' p ok (b.drop (9 + (Frm.part b).d.length)) (at_ + (9 + (Frm.part b).d.length)) ∧ Kept w w' (fun k => k = p) ∧ Below 0 w w')
    ∨ (¬ Frm.is b ∧ e = .returned (.tuple #[.agg #[.int .i64 0, .slice none 0 0], .bool false]) ∧ In w w')
set_option maxRecDepth 100000 in
set_option maxHeartbeats 3200000 in
theorem next_fits {p at_ : Nat} {ok : Nat → Prop} {b : List UInt8} {w : World} (hR : Rdr w p ok b at_) (hf : Frm.fits b) (hat : at_ ≤ 1000000000000) :
    Calls Try.prog 45 #[.pointer (some ⟨p, 0, none⟩)] w (NextPost p ok b at_ w) := by
  obtain ⟨A, n, c, hb, hc, hF, hp⟩ := hR
  obtain rfl := Kd.F_len hF
  obtain ⟨h9, hn1, hn2⟩ := hf
  have hC := Lib.hid (Kd.F_now hF)
  have hmx := (byte_len hC.out).2
  obtain ⟨ad, x4, rfl, hx4, h4⟩ := byte_at hC.out (j := 4) (by omega)
  rw [show ad.add 4 = ⟨ad.block, ad.off + 4, none⟩ from rfl] at h4
  have hc0 : w.cell? ⟨p, 0, none⟩ = some (.slice (some ad) b.length c) := blk_cell hb 0
  have hpl := blk_lt hb
  have hin := In.alloc (In.refl w) (.cells #[.int .i64 0, .slice none 0 0] 44)
  have hc01 := In.cell hc0 hin
  have h41 := In.cell h4 hin
  have HC1 := Lib.hid (Kd.C_below hC.out hin.out)
  have HN := Lib.hid (number_any (p := p) (n := b.length) (c := c) (A := some ad) (xs := b) (w := w.alloc (.cells #[.int .i64 0, .slice none 0 0] 44)) 0 hc01 HC1.out (by omega))
  have hnb := Lib.hid (rfl : Frm.num b 0 = Frm.num b 0)
  generalize hnn : Frm.num b 0 = m at *
  have HNN := Lib.hid hnn
  have HX4 := Lib.hid hx4
  have HF := Lib.hid hF
  have hpb := blk_below hb hin.out
  have hb2 := blk_new w (.cells #[.int .i64 0, .slice none 0 0] 44)
  have HNP := Lib.hid hp
  clear hF hp hb hc0 h4 hnn hnb hx4
  have hd : decide (262144 < (m : Int)) = false := decide_eq_false (by omega)
  have hd2 : decide ((b.length : Int) - 9 < (m : Int)) = false := decide_eq_false (by omega)
  go_enter Try.func45, Try.ntmps45
  go_upto_region 3 with (fail)
  generalize w.alloc (.cells #[.int .i64 0, .slice none 0 0] 44) = w1 at *
  go_wp2_with fail
  refine HN.out.mono ?_
  rintro e w2 ⟨rfl, ⟨q, rfl⟩⟩
  go_upto_region 6 with (fail)
  have hin2 := In.drewN (In.refl w1) q
  have hc02 := In.cells (In.cell hc01 hin2)
  have h42 := In.cells (In.cell h41 hin2)
  have HC2 := Lib.hid (Kd.C_below HC1.out hin2.out)
  clear hc01 h41
  generalize w1.drewN q = w2 at *
  have hw9 : IntKind.i64.wrap (9 + (m : Int)) = 9 + (m : Int) := IntWalk.i64_in _ (by omega)
  have i0 : (0 : Int) ≤ 9 + (m : Int) := by omega
  have i1 : (9 : Int) ≤ 9 + (m : Int) := by omega
  have i2 : 9 + (m : Int) ≤ (c : Int) := by omega
  have i3 : (4 : Int) < (b.length : Int) := by omega
  obtain ⟨A9, c9, hcut, hle9, hF9⟩ := bcut_mid (some ad) (c := c) (n := b.length) (m := m) 9 (9 + (m : Int)) (by omega) rfl (by omega) hc
  obtain ⟨d, hdd⟩ : ∃ d : List UInt8, d = (b.drop 9).take m := ⟨_, rfl⟩
  have hFd : Kd.F byte w2 ok A9 m d := by rw [hdd]; exact hF9 w2 ok b (Kd.F_below HF.out (In.trans hin hin2).out)
  have hdl := Kd.F_len hFd
  have hCd := Lib.hid (Kd.F_now hFd)
  have HDD := Lib.hid hdd
  clear hdd hF9 hFd
  have HCL := Lib.hid (fun (w' : World) (h : In w2 w') => clone_any (c := c9) (Kd.C_below hCd.out h.out) (by omega))
  have HDL := Lib.hid hdl
  have HPART := Lib.hid (show Frm.part b = ⟨(x4.toNat : Int), d⟩ by unfold Frm.part; rw [HNN.out, HDD.out, List.getD_eq_getElem?_getD, HX4.out]; rfl)
  have hxl := x4.toNat_lt
  have hwx : IntKind.i64.wrap ((x4.toNat : Nat) : Int) = ((x4.toNat : Nat) : Int) := IntWalk.i64_in _ (by omega)
  clear hdl
  go_region_held3 (fun w' => In w2 w') (first | exact In.drew (In.refl _) | exact In.next (by assumption) (by assumption) | exact In.alloc (by assumption) _ | assumption | exact In.set (In.set (by assumption) (Nat.le_refl _) _ _) (Nat.le_refl _) _ _)
    (first
      | (go_at_call 53; (with_reducible refine Calls.mono (HCL.out _ (by assumption)) ?_); rintro e wa ⟨v, rfl, hv, hia⟩; have hi0 := In.trans (show In w2 _ by assumption) hia; obtain ⟨hcc, hcf⟩ := bcell hia.out; obtain ⟨A0, c0', rfl, hl0, hC0⟩ := hv.reads))
  rotate_left
  focus
    have hb0 := blk_below (blk_drew (blk_new w2 (.cells #[.int .i64 0, .slice none 0 0] 44))) hia.out
    have hblk := blk_put (blk_put hb0 0 (.int .i64 (x4.toNat : Int)) rfl) 1 (.slice A0 d.length c0') rfl
    have hin3 := In.set (In.set hi0 (Nat.le_refl _) 0 (.int .i64 (x4.toNat : Int))) (Nat.le_refl _) 1 (.slice A0 d.length c0')
    have hv3 := (Mine.far hv hb0 (by decide) (w1 := (wa.setCell ⟨w2.heap.size, 0, none⟩ (.int .i64 (x4.toNat : Int))).setCell ⟨w2.heap.size, 1, none⟩ (.slice A0 d.length c0')) (fun i hi => by rw [Below.heap_setCell _ _ _ i hi, Below.heap_setCell _ _ _ i hi])).lower (In.drew (In.alloc (In.refl w2) (.cells #[.int .i64 0, .slice none 0 0] 44)))
    obtain ⟨g5, hg5⟩ : ∃ g5, g5 = w2.heap.size := ⟨_, rfl⟩
    have hgw : w2.heap.size ≤ g5 := by omega
    have HIN3 := Lib.hid hin3
    have HV := Lib.hid hv3
    have HB := Lib.hid hblk
    clear hin3 hv3 hblk hb0 hcc hcf hia hi0 hv hC0
    rw [← hg5] at HIN3 HV HB ⊢
    clear hg5
    generalize (wa.setCell ⟨g5, 0, none⟩ (.int .i64 (x4.toNat : Int))).setCell ⟨g5, 1, none⟩ (.slice A0 d.length c0') = w3 at *
  rotate_left
  focus
    have hblk := blk_new wa (.cells #[.int .i64 (x4.toNat : Int), .slice A0 d.length c0'] 44)
    have hin3 := In.alloc hi0 (.cells #[.int .i64 (x4.toNat : Int), .slice A0 d.length c0'] 44)
    have hv3 := (hv.lower (In.drew (In.refl w2))).below (In.alloc (In.refl wa) (.cells #[.int .i64 (x4.toNat : Int), .slice A0 d.length c0'] 44))
    obtain ⟨g5, hg5⟩ : ∃ g5, g5 = wa.heap.size := ⟨_, rfl⟩
    have hgw : w2.heap.size ≤ g5 := by rw [hg5]; exact hi0.size
    have HIN3 := Lib.hid hin3
    have HV := Lib.hid hv3
    have HB := Lib.hid hblk
    clear hin3 hv3 hblk hcc hcf hia hi0 hv hC0
    rw [← hg5] at HB ⊢
    clear hg5
    generalize wa.alloc (.cells #[.int .i64 (x4.toNat : Int), .slice A0 d.length c0'] 44) = w3 at *
  all_goals
    have hin3 := HIN3.out
    have HP := Lib.hid (blk_below (blk_below hpb hin2.out) hin3.out)
    have k0 : ∀ w', In w3 w' → w'.cell? ⟨p, 0, none⟩ = some (.slice (some ad) b.length c) := fun w' h => blk_cell (blk_below HP.out h.out) 0
    have k1 : ∀ w', In w3 w' → w'.cell? ⟨g5, 1, none⟩ = some (.slice A0 d.length c0') := fun w' h => blk_cell (blk_below HB.out h.out) 1
    have HB2 := Lib.hid (blk_below (blk_below (blk_below hb2 (In.refl w1).out) hin2.out) hin3.out)
    have r0 : ∀ w', In w3 w' → w'.cell? ⟨w.heap.size, 0, none⟩ = some (.int .i64 0) := fun w' h => blk_cell (blk_below HB2.out h.out) 0
    have r1 : ∀ w', In w3 w' → w'.cell? ⟨w.heap.size, 1, none⟩ = some (.slice none 0 0) := fun w' h => blk_cell (blk_below HB2.out h.out) 1
    have r2 : ∀ w', In w3 w' → w'.frozen? ⟨w.heap.size, 0, none⟩ = false := fun w' h => blk_frozen (blk_below HB2.out h.out) 0
    have r3 : ∀ w', In w3 w' → w'.frozen? ⟨w.heap.size, 1, none⟩ = false := fun w' h => blk_frozen (blk_below HB2.out h.out) 1
    obtain ⟨hcut5, hF5⟩ := bcut_to (some ad) (c := c) (n := b.length) (m := 5) 5 rfl (by omega) hc
    have HC5 := Lib.hid (Kd.F_now (hF5 w3 ok b (Kd.F_below HF.out (In.trans (In.trans hin hin2) hin3).out)))
    have HC0 := Lib.hid (show byte.C w3 A0 d.length d from (Kd.R_reads' HV.out).2.2)
    clear hF5
    have z0 : (0 : Int) ≤ 5 := by omega
    have z1 : (5 : Int) ≤ (b.length : Int) := by omega
    have z2 : (5 : Int) ≤ (c : Int) := by omega
    have z3 : 5 ≤ c := by omega
    obtain ⟨S, hS⟩ : ∃ S, S = Crc.sum (b.take 5 ++ d) := ⟨_, rfl⟩
    have HS := Lib.hid hS.symm
    obtain ⟨N5, hN5⟩ : ∃ N5, N5 = Frm.num b 5 := ⟨_, rfl⟩
    have HNE := Lib.hid hN5
    have HN5 := Lib.hid (fun (w' : World) (h : In w3 w') => by
      have := number_any (p := p) (n := b.length) (c := c) (A := some ad) (xs := b) (w := w') 5 (k0 w' h) (Kd.C_below HC2.out (In.trans hin3 h).out) (by omega)
      rw [← hN5] at this
      exact this)
    clear hS hN5
    go_upto_region 7 with (fail)
    by_cases hne : N5 = S
    · subst hne
      have hbb : (((N5 : Nat) : Int) != ((N5 : Nat) : Int)) = false := by simp
      have HYES := Lib.hid (show Frm.is b from ⟨⟨h9, by rw [HNN.out]; exact hn1, by rw [HNN.out]; exact hn2⟩, by rw [← HNE.out, ← HS.out, HDD.out, Frm.part, HNN.out]⟩)
      go_region_held3 (fun w' => In w3 w') (first | exact In.drew (In.refl _) | exact In.next (by assumption) (by assumption) | exact In.drewN (by assumption) _ | exact In.alloc (by assumption) _ | assumption | (repeat (first | exact In.refl _ | assumption | apply In.drewN | apply In.drew | apply In.alloc)))
        (first
          | (go_at_call 52; (with_reducible refine Calls.mono (HN5.out _ (by assumption)) ?_); rintro e wb ⟨rfl, ⟨q5, rfl⟩⟩)
          | (go_at_call 14; (with_reducible refine Calls.mono (sumQ HS.out (RC.mk (some ad) 5 c (by first | exact new_two0 _ _ _ _ _ | (go_simp; done)) z3 (Kd.C_below HC5.out (In.out (by assumption)))) (RC.mk A0 d.length c0' (by first | exact new_two1 _ _ _ _ _ | (go_simp; done)) hl0 (Kd.C_below HC0.out (In.out (by assumption))))) ?_); rintro e wc ⟨rfl, hic⟩))
      all_goals
        have hin4 := (show In w3 _ by assumption)
        go_upto_region 9 with (fail)
        obtain ⟨w4, hw4, hi4⟩ := In.name hin4
        rw [← hw4]
        clear hw4 hin4
        have hPb := blk_below HP.out hi4.out
        have HPB := Lib.hid hPb
        have p0 : w4.cell? ⟨p, 0, none⟩ = some (.slice (some ad) b.length c) := blk_cell hPb 0
        have p1 : w4.cell? ⟨p, 1, none⟩ = some (.int .i64 at_) := blk_cell hPb 1
        have p2 := blk_frozen hPb 0
        have p3 := blk_frozen hPb 1
        obtain ⟨M, hM⟩ : ∃ M : Nat, b.length = 9 + m + M := ⟨b.length - 9 - m, by omega⟩
        obtain ⟨A6, c6, hcut6, hle6, hF6⟩ := bcut_from (some ad) (c := c) (n := b.length) (m := M) (9 + (m : Int)) (by omega) (by omega) hc
        have HF6 := Lib.hid hF6
        have hw6 : IntKind.i64.wrap ((at_ : Int) + 9) = (at_ : Int) + 9 := IntWalk.i64_in _ (by omega)
        have hw7 : IntKind.i64.wrap ((at_ : Int) + 9 + (m : Int)) = (at_ : Int) + 9 + (m : Int) := IntWalk.i64_in _ (by omega)
        clear hPb hF6 k0 k1 r0 r1 r2 r3 hc02 h42
        have HM := Lib.hid hM
        clear hM
        go_big_region
        have hIn := In.trans (In.trans (In.trans hin hin2) hin3) hi4
        have hwl := blk_lt hb2
        have hw2l := hin2.size
        have hgp : g5 ≠ p := by omega
        have hgw2 : g5 ≠ w.heap.size := by omega
        obtain ⟨w5, hw5⟩ : ∃ w5 : World, w5 = ((w4.setCell ⟨p, 0, none⟩ (.slice A6 M c6)).setCell ⟨p, 1, none⟩ (.int .i64 ((at_ : Int) + 9 + (m : Int)))).drew := ⟨_, rfl⟩
        rw [← hw5]
        have hmv : ∀ i, i ≠ p → w5.heap[i]? = w4.heap[i]? := fun i h1 => by
          rw [hw5]
          show ((w4.setCell ⟨p, 0, none⟩ _).setCell ⟨p, 1, none⟩ _).heap[i]? = _
          rw [Below.heap_setCell _ _ _ i h1, Below.heap_setCell _ _ _ i h1]
        have hB4 := (hmv g5 hgp).trans (blk_below HB.out hi4.out)
        have hZ4 := (hmv w.heap.size (by omega)).trans (blk_below HB2.out hi4.out)
        have f0 : w5.cell? ⟨g5, 0, none⟩ = some (.int .i64 (x4.toNat : Int)) := blk_cell hB4 0
        have f1 : w5.cell? ⟨g5, 1, none⟩ = some (.slice A0 d.length c0') := blk_cell hB4 1
        have f2 : w5.cell? ⟨w.heap.size, 0, none⟩ = some (.int .i64 0) := blk_cell hZ4 0
        have f3 : w5.cell? ⟨w.heap.size, 1, none⟩ = some (.slice none 0 0) := blk_cell hZ4 1
        have f4 := blk_frozen hZ4 0
        have f5 := blk_frozen hZ4 1
        have HZ4 := Lib.hid (blk_below HB2.out hi4.out)
        have HW5 := Lib.hid hw5
        clear hw5 hmv hB4 hZ4 p0 p1 p2 p3 hIn hwl hw2l hgp hgw2
        go_wp2_with fail
        have hv4 : byte.R 5 w4 (w.heap.size + 1) (fun _ => True) (.slice A0 d.length c0') d := Kd.R_lower (HV.out.below hi4) (by have := blk_lt hb2; have := hin2.size; omega)
        obtain ⟨e1, e2, e3, e4, e5⟩ := next_end (.int .i64 ((at_ : Int) + 9 + (m : Int))) (.int .i64 (x4.toNat : Int)) (s6 := .slice A6 M c6) rfl (In.trans (In.trans (In.trans hin hin2) hin3) hi4) hpl HPB.out HZ4.out hv4 (w' := (w5.setCell ⟨w.heap.size, 0, none⟩ (.int .i64 (x4.toNat : Int))).setCell ⟨w.heap.size, 1, none⟩ (.slice A0 d.length c0')) (by rw [HW5.out])
        refine bodyPost_ret (results_ct rfl _ _ w.heap.size 44 _ (0, 0) _ rfl e1 Try.underlying44 rfl size44) rfl (.inl ⟨HYES.out, [.int .i64 (x4.toNat : Int), .slice A0 d.length c0'], rfl, ?_, ?_, e4, e5⟩)
        · rw [HPART.out]
          exact frK_mkM (x := ⟨(x4.toNat : Int), d⟩) e2
        · have hFw := HF6.out _ (fun k => ok k ∧ k < w.heap.size) b (Kd.F_step (Kd.F_bound HF.out) (fun k hk hlt => e4.2 k hk.2 (fun he => HNP.out (he ▸ hk.1))))
          rw [HPART.out]
          refine ⟨A6, M, c6, ?_, hle6, ?_, HNP.out⟩
          · rw [e3, HDL.out]
            congr 4
            simp
            omega
          · have h9m : (9 + (m : Int)).toNat = 9 + d.length := by rw [HDL.out]; omega
            rw [h9m] at hFw
            exact Kd.F_mono hFw (fun k hk => hk.1)
    · have hbb := bne_num hne
      have HNO := Lib.hid (show ¬ Frm.is b from fun h => hne (by rw [HNE.out, ← HS.out, HDD.out, h.2, Frm.part, HNN.out]))
      clear hne
      go_region_held3 (fun w' => In w3 w') (first | exact In.drew (In.refl _) | exact In.next (by assumption) (by assumption) | exact In.drewN (by assumption) _ | exact In.alloc (by assumption) _ | assumption | (repeat (first | exact In.refl _ | assumption | apply In.drewN | apply In.drew | apply In.alloc)))
        (first
          | (go_at_call 52; (with_reducible refine Calls.mono (HN5.out _ (by assumption)) ?_); rintro e wb ⟨rfl, ⟨q5, rfl⟩⟩)
          | (go_at_call 14; (with_reducible refine Calls.mono (sumQ HS.out (RC.mk (some ad) 5 c (by first | exact new_two0 _ _ _ _ _ | (go_simp; done)) z3 (Kd.C_below HC5.out (In.out (by assumption)))) (RC.mk A0 d.length c0' (by first | exact new_two1 _ _ _ _ _ | (go_simp; done)) hl0 (Kd.C_below HC0.out (In.out (by assumption))))) ?_); rintro e wc ⟨rfl, hic⟩))
      all_goals
        have hin4 := (show In w3 _ by assumption)
        go_wp2_with fail
        refine bodyPost_ret (results_ct rfl _ _ w.heap.size 44 _ (0, 0) _ rfl (blk_put (blk_put (blk_below HB2.out hin4.out) 0 _ rfl) 1 _ rfl) Try.underlying44 rfl size44) rfl (.inr ⟨HNO.out, rfl, In.set (In.set (In.trans (In.trans (In.trans hin hin2) hin3) hin4) (Nat.le_refl _) _ _) (Nat.le_refl _) _ _⟩)
end Go.Proofs.Ytkoofoglcheonaa
