/- The walk of FrameEnds. -/
import Derived.Test.YtkoofoglcheonaaEndA
namespace Go.Proofs.Ytkoofoglcheonaa
set_option linter.unusedVariables false
set_option linter.unusedSimpArgs false
open Go.RowKit Go.Proofs.YtkoofoglcheonaaW.PrintWords

def kinds : List Int := [-1, 0, 1, 255, 256]
theorem kind_cell (w : World) (k : Nat) (hk : k < 5) : ∃ x : Int, (w.alloc (.cells #[.int .i64 (-1), .int .i64 0, .int .i64 1, .int .i64 255, .int .i64 256] 3)).cell? ⟨w.heap.size, k, none⟩ = some (.int .i64 x) := by
  have h := blk_cell (blk_new w (.cells #[.int .i64 (-1), .int .i64 0, .int .i64 1, .int .i64 255, .int .i64 256] 3)) k
  match k, hk, h with
  | 0, _, h => exact ⟨_, h⟩
  | 1, _, h => exact ⟨_, h⟩
  | 2, _, h => exact ⟨_, h⟩
  | 3, _, h => exact ⟨_, h⟩
  | 4, _, h => exact ⟨_, h⟩
theorem put_n {A : Option Addr} {n c : Nat} {l : List Fr} {w : World} (hA : frK.C w A n l) (hl : Frm.size l ≤ 1000000000) : Calls Try.prog 25 #[.slice A n c] w (Puts l w) := by
  obtain rfl := hA.1
  exact put_any hA hl
theorem turned_n {A : Option Addr} {n c : Nat} {l : List Fr} {w : World} (hA : frK.C w A n l) (hl : l.length ≤ 1000000) : Calls Try.prog 27 #[.slice A n c] w fun e w' => ∃ B d, e = .returned (.slice B l.length d) ∧ frK.C w' B l.length l ∧ In w w' := by
  obtain rfl := hA.1
  exact turned_any hA hl
theorem two_frames {w : World} {x : Int} {A : Option Addr} {m c : Nat} {z : List UInt8} (hz : byte.C w A m z) (hc : m ≤ c) :
    frK.C ((w.alloc (.cells #[.int .u8 1, .int .u8 2] 5)).alloc (.cells #[.int .i64 3, .slice (some ⟨w.heap.size, 0, none⟩) 2 2, .int .i64 x, .slice A m c] 44)) (some ⟨w.heap.size + 1, 0, none⟩) 2 [⟨3, [1, 2]⟩, ⟨x, z⟩] := by
  have hzl : m = z.length := by have := (byte_len hz).1; omega
  have h := fr_lit (W := w.alloc (.cells #[.int .u8 1, .int .u8 2] 5)) (cs := [.int .i64 3, .slice (some ⟨w.heap.size, 0, none⟩) 2 2, .int .i64 x, .slice A m c]) (t := 44) (fs := [⟨3, [1, 2]⟩, ⟨x, z⟩]) (by simp) (fun j f hf => by
    match j, hf with
    | 0, hf =>
      simp at hf
      subst hf
      exact ⟨_, _, rfl, rfl, by simp, byte_lit w [1, 2] (by simp)⟩
    | 1, hf =>
      simp at hf
      subst hf
      refine ⟨A, c, rfl, ?_, by rw [← hzl]; exact hc, ?_⟩
      · rw [← hzl]
        rfl
      · rw [← hzl]
        exact Kd.C_below hz (In.alloc (In.refl _) _).out
    | j + 2, hf => simp at hf)
  simpa using h
theorem three_frames (w : World) :
    frK.C (((w.alloc (.cells #[.int .u8 5, .int .u8 0, .int .u8 7] 5)).alloc (.cells #[.int .u8 0] 5)).alloc (.cells #[.int .i64 1, .slice (some ⟨w.heap.size, 0, none⟩) 3 3, .int .i64 255, .slice none 0 0, .int .i64 0, .slice (some ⟨w.heap.size + 1, 0, none⟩) 1 1] 44)) (some ⟨w.heap.size + 2, 0, none⟩) 3 [⟨1, [5, 0, 7]⟩, ⟨255, []⟩, ⟨0, [0]⟩] := by
  have h := fr_lit (W := (w.alloc (.cells #[.int .u8 5, .int .u8 0, .int .u8 7] 5)).alloc (.cells #[.int .u8 0] 5)) (cs := [.int .i64 1, .slice (some ⟨w.heap.size, 0, none⟩) 3 3, .int .i64 255, .slice none 0 0, .int .i64 0, .slice (some ⟨w.heap.size + 1, 0, none⟩) 1 1]) (t := 44) (fs := [⟨1, [5, 0, 7]⟩, ⟨255, []⟩, ⟨0, [0]⟩]) (by simp) (fun j f hf => by
    match j, hf with
    | 0, hf =>
      simp at hf
      subst hf
      exact ⟨_, _, rfl, rfl, by simp, Kd.C_below (byte_lit w [5, 0, 7] (by simp)) (In.alloc (In.refl _) _).out⟩
    | 1, hf =>
      simp at hf
      subst hf
      exact ⟨none, 0, rfl, rfl, by simp, byte_nil _⟩
    | 2, hf =>
      simp at hf
      subst hf
      have h2 := byte_lit (w.alloc (.cells #[.int .u8 5, .int .u8 0, .int .u8 7] 5)) [0] (by simp)
      have e9 : (w.alloc (.cells #[.int .u8 5, .int .u8 0, .int .u8 7] 5)).heap.size = w.heap.size + 1 := by simp
      rw [e9] at h2
      exact ⟨_, _, rfl, rfl, by simp, h2⟩
    | j + 3, hf => simp at hf)
  simpa using h
theorem none_C (w : World) : frK.C w none 0 [] := ⟨rfl, by omega, fun h => absurd h (by omega)⟩
theorem tells_nil {B : Option Addr} {n d : Nat} {b : List UInt8} {w : World} (hB : byte.C w B n b) (hb : b.length ≤ 1000000) (hd : n ≤ d) : Calls Try.prog 7 #[.slice none 0 0, .slice B n d] w fun e w' => e = .returned (.bool true) ∧ In w w' := by
  have hn := (byte_len hB).1
  subst hn
  exact (frameTells_any w none 0 [] (none_C w) (by simp) (by simp) (by simp) B d b hB (by omega) hd).mono fun e w' h => ⟨h.1, h.2⟩
theorem rput_n {A : Option Addr} {n c : Nat} {l : List Fr} {w : World} (hA : frK.C w A n l) (hl : Frm.size l ≤ 9000000) : Calls Try.prog 26 #[.slice A n c] w (Puts l w) := by
  obtain rfl := hA.1
  exact rput_any hA hl
theorem one_frame {w : World} {A : Option Addr} {m c : Nat} {z : List UInt8} (hz : byte.C w A m z) (hc : m ≤ c) :
    frK.C (w.alloc (.cells #[.int .i64 0, .slice A m c] 60)) (some ⟨w.heap.size, 0, none⟩) 1 [⟨0, z⟩] := by
  have hzl : m = z.length := by have := (byte_len hz).1; omega
  have h := fr_lit (W := w) (cs := [.int .i64 0, .slice A m c]) (t := 60) (fs := [⟨0, z⟩]) (by simp) (fun j f hf => by
    match j, hf with
    | 0, hf =>
      simp at hf
      subst hf
      refine ⟨A, c, rfl, ?_, by rw [← hzl]; exact hc, ?_⟩
      · rw [← hzl]
        rfl
      · rw [← hzl]
        exact hz
    | j + 1, hf => simp at hf)
  exact h
theorem one_n {w : World} {A : Option Addr} {m c : Nat} {z : List UInt8} (hz : byte.C w A m z) (hc : m ≤ c) (hl : m ≤ 9000000) :
    Calls Try.prog 34 #[.agg #[.int .i64 0, .slice A m c]] w fun e w' => ∃ v, e = .returned v ∧ Mine w w' v (Frm.one ⟨0, z⟩) ∧ In w w' := by
  have hzl : m = z.length := by have := (byte_len hz).1; omega
  subst hzl
  exact one_any (f := ⟨0, z⟩) (frK_mk (x := ⟨0, z⟩) hc hz) (Int.le_refl 0) (by show (0 : Int) ≤ 255; omega) hl
set_option maxRecDepth 100000 in
set_option maxHeartbeats 3200000 in
theorem frameEnds_any (W : World) : Calls Try.prog 8 #[] W fun e w' => e = .returned (.bool true) ∧ Below W.heap.size W w' := by
  obtain ⟨L, hL⟩ : ∃ L : Nat, L = 262145 := ⟨_, rfl⟩
  have hmk : ∀ w : World, (Instr.makeSlice 34 (.int .i64 262145) (.int .i64 262145)).run Try.prog w = .ok (.slice (some ⟨w.heap.size, 0, none⟩) L L) (w.alloc (.cells (madeCells #[encB 0] L) 5)) := by
    rw [hL]
    exact print_make_of (P := Try.prog) 34 5 (.int .u8 0) 1 Try.underlying34 info5 rfl (by decide) 262145 (by decide)
  have hLi : (L : Int) = 262145 := by omega
  have HL := Lib.hid hL
  clear hL
  go_enter Try.func8, Try.ntmps8
  go_wp2_with fail
  refine (awake3_any _).mono ?_
  rintro e w1 ⟨rfl, h1⟩
  go_wp2_with fail
  have hK := Lib.hid (fun k hk => kind_cell w1 k hk)
  have hZ := Lib.hid (zeros_C (W := w1.alloc (.cells #[.int .i64 (-1), .int .i64 0, .int .i64 1, .int .i64 255, .int .i64 256] 3)) (L := L) (by omega))
  obtain ⟨g1, hg1⟩ : ∃ g1, g1 = w1.heap.size := ⟨_, rfl⟩
  have hin2 := In.alloc (In.refl w1) (.cells #[.int .i64 (-1), .int .i64 0, .int .i64 1, .int .i64 255, .int .i64 256] 3)
  have hs2 : (w1.alloc (.cells #[.int .i64 (-1), .int .i64 0, .int .i64 1, .int .i64 255, .int .i64 256] 3)).heap.size = g1 + 1 := by rw [hg1]; simp
  rw [hs2] at hZ
  rw [← hg1] at hK ⊢
  generalize w1.alloc (.cells #[.int .i64 (-1), .int .i64 0, .int .i64 1, .int .i64 255, .int .i64 256] 3) = w2 at *
  obtain ⟨g2, hg2⟩ : ∃ g2, g2 = g1 + 1 := ⟨_, rfl⟩
  rw [← hg2] at hZ ⊢
  have hin3 := In.alloc (In.refl w2) (.cells (madeCells #[encB 0] L) 5)
  generalize w2.alloc (.cells (madeCells #[encB 0] L) 5) = w3 at *
  have HI3 := Lib.hid (In.trans (In.trans h1 hin2) hin3)
  have HIK := Lib.hid hin3
  clear hg1 hg2 hs2 hin2 hin3 h1 hmk
  go_loopw [3, 4, 5, 6, 7, 8, 9] (fun i _ _ _ _ _ _ wr => ∃ k : Nat, k ≤ 5 ∧ i = .int .i64 k ∧ In w3 wr) (fun i _ _ _ _ _ _ _ => 5 - (intOf i).toNat)
  case atStart => exact ⟨0, by omega, rfl, In.refl _⟩
  case round =>
    obtain ⟨k, hk, rfl, hin⟩ := hrel
    by_cases hlt : k < 5
    · obtain ⟨x, hx⟩ := hK.out k hlt
      have HX := Lib.hid hx
      have hdk : decide ((k : Int) < 5) = true := decide_eq_true (by omega)
      clear hx
      go_wp2_with fail
      go_loopw [4, 5, 6, 7, 8, 9] (fun i _ _ _ _ _ wr => ∃ j : Nat, j ≤ 2 ∧ i = .int .i64 j ∧ In w3 wr) (fun i _ _ _ _ _ _ => 2 - (intOf i).toNat)
      case atStart => exact ⟨0, by omega, rfl, hin⟩
      case round =>
        clear hin
        obtain ⟨j, hj, rfl, hin⟩ := hrel
        by_cases hlj : j < 2
        · have hw := IntWalk.i64_in (262144 + (j : Int)) (by omega)
          obtain ⟨m, hm⟩ : ∃ m : Nat, m = 262144 + j := ⟨_, rfl⟩
          have hLL := HL.out
          obtain ⟨hcut, hF⟩ := bcut_to (some ⟨g2, 0, none⟩) (c := L) (n := L) (m := m) (262144 + (j : Int)) (by omega) (by omega) (Nat.le_refl _)
          have HF := Lib.hid hF
          have HM := Lib.hid hm
          have hmL : m ≤ L := by omega
          have j0 : (0 : Int) ≤ (k : Int) := by omega
          have j1 : (k : Int) < 5 := by omega
          have hcx := In.cells (In.cell (In.cell HX.out HIK.out) hin)
          have i0 : (0 : Int) ≤ 262144 + (j : Int) := by omega
          have i1 : 262144 + (j : Int) ≤ (L : Int) := by omega
          clear hF hm hLL
          go_upto_region 11 with (fail)
          go_region_held3 (fun w' => In wr w') (first | exact In.drew (In.refl _) | exact In.alloc (by assumption) _ | assumption) (fail)
          all_goals
            have hz := Kd.F_now (HF.out wr (fun _ => True) (List.replicate L 0) (Kd.F_mono (Kd.C_F Kd.heap_scalar (Kd.C_below hZ.out hin.out)) (fun _ _ => trivial)))
            obtain ⟨fs, hfs⟩ : ∃ fs : List Fr, fs = [⟨3, [1, 2]⟩, ⟨x, (List.replicate L 0).take m⟩] := ⟨_, rfl⟩
            have hC := two_frames (x := x) hz hmL
            rw [← hfs] at hC
            have hfl : fs.length ≤ 1000000 := by rw [hfs]; simp
            have hfz : Frm.size fs ≤ 300000 := by
              rw [hfs]
              simp [Frm.size]
              have := HL.out
              omega
            have hin5 := In.trans hin (show In wr ((wr.alloc (.cells #[.int .u8 1, .int .u8 2] 5)).alloc (.cells #[.int .i64 3, .slice (some ⟨wr.heap.size, 0, none⟩) 2 2, .int .i64 x, .slice (some ⟨g2, 0, none⟩) m L] 44)) from In.alloc (In.alloc (In.refl _) _) _)
            generalize (wr.alloc (.cells #[.int .u8 1, .int .u8 2] 5)).alloc (.cells #[.int .i64 3, .slice (some ⟨wr.heap.size, 0, none⟩) 2 2, .int .i64 x, .slice (some ⟨g2, 0, none⟩) m L] 44) = w5 at *
            have HC := Lib.hid (Kd.C_below hC (In.drew (In.refl _)).out)
            have hin6 := In.drew hin5
            generalize w5.drew = w6 at *
            obtain ⟨tt, htt⟩ : ∃ tt, tt = Frm.told fs := ⟨_, rfl⟩
            obtain ⟨E, hE⟩ : ∃ E, E = Frm.putE fs := ⟨_, rfl⟩
            have HTE := Lib.hid htt
            have HEE := Lib.hid hE
            have HI6 := Lib.hid hin6
            clear htt hE hfs hz hC hin5 hin6 hcut hcx hin
            go_wp2_with fail
            (with_reducible refine (put_n HC.out (by omega)).mono ?_)
            rintro e w7 hp
            obtain ⟨s, rfl, hms, hi7⟩ := hp.uni
            clear hp
            rw [← HTE.out] at hms
            rw [← HEE.out]
            obtain ⟨As, cs, rfl⟩ := Kd.R_slice hms
            have HMS := Lib.hid hms
            have HI7 := Lib.hid hi7
            clear hms hi7
            go_wp2_with fail
            (with_reducible refine (turned_n (Kd.C_below HC.out HI7.out.out) hfl).mono ?_)
            rintro e w8 ⟨B3, d3, rfl, hC3, hi8⟩
            have HC3 := Lib.hid hC3
            have HI8 := Lib.hid hi8
            clear hC3 hi8
            go_wp2_with fail
            (with_reducible refine (rput_any HC3.out (by omega)).mono ?_)
            rintro e w9 hp
            obtain ⟨t, rfl, hmt, hi9⟩ := hp.uni
            clear hp
            rw [← HTE.out] at hmt
            rw [← HEE.out]
            obtain ⟨At, ct, rfl⟩ := Kd.R_slice hmt
            have HI79 := Lib.hid (In.trans HI8.out hi9)
            have HSM := Lib.hid (same_n (c := cs) (d := ct) (Kd.C_below (Kd.R_reads' HMS.out).2.2 HI79.out.out) (Kd.R_reads' hmt).2.2)
            have e1 : (E != E) = false := by simp
            clear hmt hi9 HC3
            go_wp2_with fail
            (with_reducible refine HSM.out.mono ?_)
            rintro e w10 ⟨rfl, hd10⟩
            have hend := In.drawn (In.trans (In.trans HI6.out HI7.out) HI79.out) hd10
            clear hd10 HSM
            go_wp2_with fail
            go_roundw
            case rel => exact ⟨j + 1, by omega, by go_num, hend⟩
            case measure => simp [intOf]; omega
        · obtain rfl : j = 2 := by omega
          go_wp2_with fail
          go_roundw
          case rel => exact ⟨k + 1, by omega, by go_num, hin⟩
          case measure => simp [intOf]; omega
    · obtain rfl : k = 5 := by omega
      clear hlt hk
      go_wp2_with fail
      have hC := three_frames wr
      have hin5 := In.trans hin (In.alloc (In.alloc (In.alloc (In.refl wr) (.cells #[.int .u8 5, .int .u8 0, .int .u8 7] 5)) (.cells #[.int .u8 0] 5)) (.cells #[.int .i64 1, .slice (some ⟨wr.heap.size, 0, none⟩) 3 3, .int .i64 255, .slice none 0 0, .int .i64 0, .slice (some ⟨wr.heap.size + 1, 0, none⟩) 1 1] 44))
      generalize (((wr.alloc (.cells #[.int .u8 5, .int .u8 0, .int .u8 7] 5)).alloc (.cells #[.int .u8 0] 5)).alloc (.cells #[.int .i64 1, .slice (some ⟨wr.heap.size, 0, none⟩) 3 3, .int .i64 255, .slice none 0 0, .int .i64 0, .slice (some ⟨wr.heap.size + 1, 0, none⟩) 1 1] 44)) = w5 at *
      obtain ⟨fs, hfs⟩ : ∃ fs : List Fr, fs = [⟨1, [5, 0, 7]⟩, ⟨255, []⟩, ⟨0, [0]⟩] := ⟨_, rfl⟩
      rw [← hfs] at hC
      obtain ⟨tt, htt⟩ : ∃ tt, tt = Frm.told fs := ⟨_, rfl⟩
      have hfz : Frm.size fs ≤ 31 := by rw [hfs]; simp [Frm.size]
      have htl : tt.length ≤ 31 := by rw [htt]; exact Nat.le_trans (Frm.told_len fs) hfz
      have HI5 := Lib.hid hin5
      have HC := Lib.hid hC
      have HTE := Lib.hid htt
      clear hfs htt hin5 hC hin
      (with_reducible refine (put_n HC.out (by omega)).mono ?_)
      rintro e w6 hp
      obtain ⟨s, rfl, hms, hi6⟩ := hp.uni
      clear hp
      rw [← HTE.out] at hms
      obtain ⟨As, cs, rfl⟩ := Kd.R_slice hms
      have HMS := Lib.hid hms
      have hcs := (Kd.R_reads' hms).2.1
      have HI6 := Lib.hid (In.trans HI5.out hi6)
      have HCS := Lib.hid (Kd.R_reads' hms).2.2
      generalize Frm.putE fs = E at *
      clear hms hi6 HC HTE hfz HI5
      go_wp2_with fail
      go_loopw [12, 13, 14] (fun i _ _ wr => ∃ k : Nat, k ≤ tt.length + 1 ∧ i = .int .i64 k ∧ In w6 wr) (fun i _ _ _ => tt.length + 1 - (intOf i).toNat)
      case atStart => exact ⟨0, by omega, rfl, In.refl _⟩
      case round =>
        obtain ⟨k, hk, rfl, hin⟩ := hrel
        by_cases hlt : k ≤ tt.length
        · have hd0 : decide ((k : Int) ≤ (tt.length : Int)) = true := decide_eq_true (by omega)
          obtain ⟨hcut, hF⟩ := bcut_to As (c := cs) (n := tt.length) (m := k) (k : Int) rfl hlt hcs
          obtain ⟨m, hm⟩ : ∃ m, m = (tt.drop k).length := ⟨_, rfl⟩
          have hm2 : m = tt.length - k := by rw [hm, List.length_drop]
          obtain ⟨A9, c9, hcut9, hle9, hF9⟩ := bcut_from As (c := cs) (n := tt.length) (m := m) (k : Int) (by omega) (by omega) hcs
          have HF0 : ∀ w', In w6 w' → Kd.F byte w' (fun _ => True) As tt.length tt := fun w' h => Kd.F_mono (Kd.C_F Kd.heap_scalar (Kd.C_below HCS.out h.out)) (fun _ _ => trivial)
          have H1 := Lib.hid (fun (w' : World) (h : In w6 w') => tells_nil (d := cs) (Kd.F_now (hF w' (fun _ => True) tt (HF0 w' h))) (by rw [List.length_take]; omega) (by omega))
          have H9 := Lib.hid (fun (w' : World) (h : In w6 w') => Kd.F_now (hF9 w' (fun _ => True) tt (HF0 w' h)))
          have HH := Lib.hid HF0
          have hkc : k ≤ cs := by omega
          obtain ⟨dd, hdd⟩ : ∃ dd, dd = tt.drop k := ⟨_, rfl⟩
          rw [show ((k : Int)).toNat = k from by omega, ← hdd] at H9
          have HDD := Lib.hid (show dd.length = m by rw [hdd, hm])
          have hdl : dd.length ≤ 31 := by rw [HDD.out]; omega
          have hml : m ≤ 31 := by omega
          clear hdd
          clear hF hF9 HF0 hm hm2
          go_wp2_with fail
          (with_reducible refine (H1.out _ hin).mono ?_)
          rintro e w7 ⟨rfl, hi7⟩
          have hin7 := In.trans hin hi7
          have H9b := Lib.hid (byte_reads (H9.out _ (In.alloc hin7 (.cells #[] 5))))
          have hinA := Lib.hid (In.alloc (In.refl w7) (.cells #[] 5))
          clear hi7 H1
          go_wp2_with (at_builtin; refine gate_guard (by rfl) ?_; refine print_append_row_of encB (0 : UInt8) (w0 := w7) w7.heap.size rfl (.tmp 90) (.tmp 93) 34 5 (.int .u8 0) 1 rfl Try.underlying34 info5 rfl (by decide) (fun _ => rfl) (.slice (some ⟨w7.heap.size, 0, none⟩) 0 0) [] dd A9 m c9 rfl rfl (empty_mine w7) H9b.out hinA.out.out hinA.out.size (by simp; omega) ?_)
          intro v8 w8 ho8 hb8 hg8 hat8
          have HO8 := Lib.hid ho8
          have hi78 : In w7 w8 := hb8
          have HI8 := Lib.hid (In.trans hin7 hi78)
          have HR8 := Lib.hid (byte_reads (Kd.C_below HCS.out HI8.out.out))
          have HB8 := Lib.hid hi78
          clear ho8 hb8 hg8 hat8 hi78 H9b
          go_wp2_with (at_builtin; refine gate_guard (by rfl) ?_; refine print_append_row_of encB (0 : UInt8) (w0 := w7) w7.heap.size rfl (.tmp 94) (.tmp 95) 34 5 (.int .u8 0) 1 rfl Try.underlying34 info5 rfl (by decide) (fun _ => rfl) v8 dd tt As tt.length cs rfl rfl HO8.out HR8.out HB8.out.out HB8.out.size (by omega) ?_)
          intro v9 w9 ho9 hb9 hg9 hat9
          have hi79 : In w7 w9 := hb9
          obtain ⟨Aq, cq, rfl, hleq, hCq⟩ := (Mine.of_own2 (W := w7) ho9 (by rw [List.length_append])).reads
          rw [List.length_append] at hleq hCq ⊢
          have HT9 := Lib.hid (tells_nil (d := cq) hCq (by rw [List.length_append]; omega) hleq)
          have HI9 := Lib.hid (In.trans hin7 hi79)
          clear ho9 hb9 hg9 hat9 hi79 hCq HO8 HR8 hin7
          go_wp2_with fail
          (with_reducible refine HT9.out.mono ?_)
          rintro e w10 ⟨rfl, hi10⟩
          have HI10 := Lib.hid (In.trans HI9.out hi10)
          clear hi10 HT9 hcut hcut9
          go_wp2_with fail
          go_loopw [13, 14] (fun i _ wr => ∃ j : Nat, j ≤ 256 ∧ i = .int .i64 j ∧ In w6 wr) (fun i _ _ => 256 - (intOf i).toNat)
          case atStart => exact ⟨0, by omega, rfl, HI10.out⟩
          case round =>
            obtain ⟨j, hj, rfl, hin⟩ := hrel
            by_cases hj2 : j < 256
            · have hd1 : decide ((j : Int) < 256) = true := decide_eq_true (by omega)
              by_cases hk2 : k < tt.length
              · have hd2 : decide (k < tt.length) = true := decide_eq_true hk2
                have hd3 : decide ((k : Int) < (tt.length : Int)) = true := decide_eq_true (by omega)
                have HRb := Lib.hid (byte_reads (Kd.C_below HCS.out (In.alloc hin (.cells #[] 5)).out))
                have hinA2 := Lib.hid (In.alloc (In.refl wr) (.cells #[] 5))
                go_wp2_with (at_builtin; refine print_append_row_of encB (0 : UInt8) (w0 := wr) wr.heap.size rfl (.tmp 110) (.tmp 111) 34 5 (.int .u8 0) 1 rfl Try.underlying34 info5 rfl (by decide) (fun _ => rfl) (.slice (some ⟨wr.heap.size, 0, none⟩) 0 0) [] tt As tt.length cs rfl rfl (empty_mine wr) HRb.out hinA2.out.out hinA2.out.size (by simp; omega) ?_)
                intro v11 w11 ho hb hg hat
                have ho : w11.ownsRow wr.heap.size 5 1 v11 tt.length (encs encB tt) := ho
                obtain ⟨g, cap, rfl, hgb, hgl⟩ := ho.form (by omega)
                obtain ⟨hcell, hfro⟩ := own_byte ho k hk2
                have hy : ((UInt8.ofNat j).toNat : Int) = (j : Int) := by rw [Frm.toNat_of]; omega
                have hput := own_byte_put ho k (UInt8.ofNat j)
                rw [hy] at hput
                have hw8 : IntKind.u8.wrap (j : Int) = (j : Int) := by simp [IntKind.wrap, IntKind.bits, IntKind.signed]; omega
                have hcp := own_le ho
                have HTL := Lib.hid (tells_nil (d := cap) (byte_of_reads (own_reads_of' (d := (0 : UInt8)) hput)) (by rw [List.length_set]; omega) hcp)
                have HIS := Lib.hid (In.set (In.trans hin (show In wr w11 from hb)) (Nat.le_trans hin.size hgb) k (.int .u8 (j : Int)))
                clear ho hb hg hat hy hput hin
                go_wp2_with fail
                (with_reducible refine HTL.out.mono ?_)
                rintro e w12 ⟨rfl, hi12⟩
                have hend := In.trans HIS.out hi12
                clear hi12 HTL HIS
                go_wp2_with fail
                go_roundw
                case rel => exact ⟨j + 1, by omega, by go_num, hend⟩
                case measure => simp [intOf]; omega
              · have hd2 : decide (k < tt.length) = false := decide_eq_false hk2
                have hd3 : decide ((k : Int) < (tt.length : Int)) = false := decide_eq_false (by omega)
                go_wp2_with fail
                go_roundw
                case rel => exact ⟨k + 1, by omega, by go_num, hin⟩
                case measure => simp [intOf]; omega
            · have hd1 : decide ((j : Int) < 256) = false := decide_eq_false (by omega)
              go_wp2_with fail
              go_roundw
              case rel => exact ⟨k + 1, by omega, by go_num, hin⟩
              case measure => simp [intOf]; omega
        · obtain rfl : k = tt.length + 1 := by omega
          have hd0 : decide (((tt.length + 1 : Nat) : Int) ≤ (tt.length : Int)) = false := decide_eq_false (by omega)
          have hd00 : decide ((tt.length : Int) + 1 ≤ (tt.length : Int)) = false := decide_eq_false (by omega)
          have hLL := HL.out
          obtain ⟨M, hM⟩ : ∃ M : Nat, M = 262144 := ⟨_, rfl⟩
          obtain ⟨hcut, hF⟩ := bcut_to (some ⟨g2, 0, none⟩) (c := L) (n := L) (m := M) 262144 (by omega) (by omega) (Nat.le_refl _)
          have hML : M ≤ L := by omega
          have hM2 : (M : Int) = 262144 := by omega
          obtain ⟨zs, hzs⟩ : ∃ zs : List UInt8, zs = List.replicate L 0 := ⟨_, rfl⟩
          have HI36 := Lib.hid (In.trans HI6.out hin)
          have hz0 := Kd.C_below hZ.out HI36.out.out
          rw [← hzs] at hz0
          have hzl : zs.length = L := by rw [hzs, List.length_replicate]
          have hzt : (zs.take M).length = M := by rw [List.length_take]; omega
          have hz1 := Kd.F_now (hF wr (fun _ => True) zs (Kd.F_mono (Kd.C_F Kd.heap_scalar hz0) (fun _ _ => trivial)))
          obtain ⟨f1, hf1⟩ : ∃ f1 : Fr, f1 = ⟨0, zs.take M⟩ := ⟨_, rfl⟩
          have hC1 := one_frame hz1 hML
          rw [← hf1] at hC1
          have hg1 : Frm.allGood [f1] := by
            intro f hf
            rw [List.mem_singleton] at hf
            subst hf hf1
            exact ⟨Int.le_refl 0, by show (0 : Int) ≤ 255; omega, by show (zs.take M).length ≤ 262144; omega⟩
          have hs1 : Frm.size [f1] = 262153 := by
            rw [hf1]
            show 9 + (zs.take M).length + 0 = 262153
            omega
          have HG1 := Lib.hid hg1
          have HS1 := Lib.hid hs1
          have HC1 := Lib.hid hC1
          have HON := Lib.hid (fun (w' : World) (h : In wr w') => one_n (Kd.C_below hz0 h.out) (Nat.le_refl L) (by omega))
          have HOV := Lib.hid (show Frm.get (Frm.one ⟨0, zs⟩) = [] from get_over (by show 262144 < zs.length; omega) (by show zs.length < 4294967296; omega))
          have HOL := Lib.hid (show (Frm.one ⟨0, zs⟩).length ≤ 1000000000 by rw [Frm.one_length]; show 9 + zs.length ≤ _; omega)
          have HFL := Lib.hid (show (Frm.flat [f1]).length ≤ 1000000000 by rw [Frm.flat_length, hs1]; omega)
          have HGE := Lib.hid (show Frm.get (Frm.flat [f1]) = [f1] from Frm.get_flat' _ hg1)
          have HIN := Lib.hid hin
          have hinR := Lib.hid (In.alloc (In.refl wr) (.cells #[.int .i64 0, .slice (some ⟨g2, 0, none⟩) M L] 60))
          clear hF hz0 hz1 hf1 hC1 hg1 hs1 hin hM hM2 hLL hzs hzl hzt
          go_wp2_with fail
          (with_reducible refine (rput_n HC1.out (by rw [HS1.out]; omega)).mono ?_)
          rintro e w7 ⟨hi7, ⟨hz2, v7, rfl, hm7⟩ | ⟨hbad, _⟩⟩
          rotate_left
          · exact absurd (Frm.putE_good.2 HG1.out) hbad
          obtain ⟨A7, c7, rfl⟩ := Kd.R_slice hm7
          have HM7 := Lib.hid hm7
          have HI7 := Lib.hid (In.trans hinR.out hi7)
          clear hm7 hi7 hz2
          generalize Frm.flat [f1] = b1 at *
          generalize Frm.one ⟨0, zs⟩ = b2 at *
          go_wp2_with fail
          (with_reducible refine (HON.out _ HI7.out).mono ?_)
          rintro e w8 ⟨v8, rfl, hm8, hi8⟩
          obtain ⟨A8, c8, rfl⟩ := Kd.R_slice hm8
          have HM8 := Lib.hid hm8
          have HI8 := Lib.hid hi8
          clear hm8 hi8
          go_wp2_with fail
          have HG7 := Lib.hid (get_any (Kd.C_below (Kd.R_reads' HM7.out).2.2 HI8.out.out) (Kd.R_reads' HM7.out).2.1 HFL.out)
          (with_reducible refine HG7.out.mono ?_)
          rintro e w9 ⟨v9, rfl, hR9, hi9⟩
          rw [HGE.out] at hR9 ⊢
          obtain ⟨A9, c9, rfl⟩ := Kd.R_slice hR9
          rw [HS1.out]
          have HI9 := Lib.hid hi9
          clear hR9 hi9
          go_wp2_with fail
          have HG8 := Lib.hid (get_any (Kd.C_below (Kd.R_reads' HM8.out).2.2 HI9.out.out) (Kd.R_reads' HM8.out).2.1 HOL.out)
          (with_reducible refine HG8.out.mono ?_)
          rintro e w10 ⟨v10, rfl, hR10, hi10⟩
          rw [HOV.out] at hR10 ⊢
          obtain ⟨A10, c10, rfl⟩ := Kd.R_slice hR10
          rw [show Frm.size [] = 0 from rfl]
          have HI10 := Lib.hid (In.trans (In.trans (In.trans (In.trans (In.trans HI3.out HI36.out) HI7.out) HI8.out) HI9.out) hi10)
          clear hR10 hi10
          go_wp2_with fail
          refine (awake3_any _).mono ?_
          rintro e w11 ⟨rfl, hi11⟩
          go_wp2_with fail
          go_ret
          exact ⟨rfl, (In.trans HI10.out hi11).out⟩
end Go.Proofs.Ytkoofoglcheonaa
