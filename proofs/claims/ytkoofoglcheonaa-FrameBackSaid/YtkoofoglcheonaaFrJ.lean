/- The walk of FrameBack. -/
import Derived.Test.YtkoofoglcheonaaFrI
namespace Go.Proofs.Ytkoofoglcheonaa
set_option linter.unusedVariables false
set_option linter.unusedSimpArgs false
open Go.RowKit Go.Proofs.YtkoofoglcheonaaW.PrintWords

theorem turn8b (y : UInt8) {j : Nat} (hj : j < 8) : bits .xor .u8 (y.toNat : Int) ((2 : Int) ^ j % 256) = ((Crc.turnB y j).toNat : Int) := by
  have h1 : (2 : Nat) ^ j < 2 ^ 8 := Nat.pow_lt_pow_right (by omega) hj
  have h2 : ((2 : Int) ^ j % 256) = ((2 ^ j : Nat) : Int) := by
    have h3 : ((2 : Int) ^ j) = ((2 ^ j : Nat) : Int) := by simp
    rw [h3]
    generalize (2 : Nat) ^ j = q at *
    omega
  rw [h2, bits_xor_u8 _ _ y.toNat_lt (by omega), Crc.turnB_toNat y hj]
theorem fcut_to {A : Option Addr} {c n m : Nat} (hi : Int) (h1 : hi = (m : Int)) (h2 : m ≤ n) (hc : n ≤ c) :
    ∀ w : World, (Instr.slice 41 (.slice A n c) none (some (.int .i64 hi)) none).run Try.prog w = .ok (.slice A m c) w := by
  obtain ⟨i0, hi0, hz0, hz1, hz2⟩ := info_parts info44
  intro w
  rw [cut_to (P := Try.prog) 41 44 .i64 Try.underlying41 hi0 A n c hi (by omega) (by omega) hc w, show hi.toNat = m from by omega]
set_option maxRecDepth 100000 in
set_option maxHeartbeats 6400000 in
theorem frameBack_any (W : World) (A : Option Addr) (c : Nat) (l : List Fr) (hA : frK.C W A l.length l) (hn : l.length ≤ 200000000000000) (hrl : ∀ f ∈ l, f.d.length ≤ 200000000000000) (hlc : l.length ≤ c) (cut bit : Int) :
    Calls Try.prog 9 #[.slice A l.length c, .int .i64 cut, .int .i64 bit] W fun e w' => e = .returned (.bool true) ∧ Below W.heap.size W w' := by
  have HA := Lib.hid hA
  clear hA
  go_enter Try.func9, Try.ntmps9
  go_wp2_with fail
  refine (awake3_any _).mono ?_
  rintro e w1 ⟨rfl, h1⟩
  have HG := Lib.hid (great3_any (c := c) (Kd.C_below HA.out h1.out) hn hrl)
  go_wp2_with fail
  refine HG.out.mono ?_
  rintro e w1' ⟨g, rfl, rfl, hg⟩
  cases g with
  | true =>
    clear hg
    go_wp2_with fail
    go_ret
    exact ⟨rfl, h1.out⟩
  | false =>
    have HM := Lib.hid (hg rfl)
    clear hg HG hn hrl
    go_wp2_with fail
    refine (put_any (l := l) (Kd.C_below HA.out h1.out) (by have := Frm.size_much l; have := HM.out; omega)).mono ?_
    rintro e w2 ⟨hi2, ⟨hz2, v2, rfl, hM2⟩ | ⟨hbad, rfl⟩⟩
    rotate_left
    · have hne : ((Frm.putE l : Int) != 0) = true := by rw [bne_iff_ne]; omega
      go_wp2_with fail
      go_ret
      exact ⟨rfl, (In.trans h1 hi2).out⟩
    have h12 := In.trans h1 hi2
    have hlg := Lib.hid (Frm.putE_good.1 hz2)
    obtain ⟨s, hs⟩ : ∃ s, s = Frm.flat l := ⟨_, rfl⟩
    rw [← hs] at hM2
    have hfl : s.length = Frm.size l := by rw [hs]; exact Frm.flat_length l
    have hsle : s.length ≤ 72000 := by have := Frm.size_much l; have := HM.out; omega
    have hll : l.length ≤ 8000 := by have := HM.out; unfold Frm.much at this; omega
    have HFL := Lib.hid hfl
    have HS := Lib.hid hs
    clear hs hz2 hfl
    obtain ⟨A2, c2, rfl, hle2, hC2⟩ := hM2.reads
    have HC2 := Lib.hid hC2
    clear hC2 hM2
    have hgs := Lib.hid (show Frm.get s = l by rw [HS.out, Frm.get_flat' l hlg.out])
    go_wp2_with fail
    (with_reducible refine (get_any HC2.out hle2 (by omega)).mono ?_)
    rintro e w3 ⟨v3, rfl, hR3, hi3⟩
    rw [hgs.out] at hR3 ⊢
    obtain ⟨A3, c3, rfl⟩ := Kd.R_slice hR3
    have HEQ3 := Lib.hid (equal_any (c := c3) (d := c) (Kd.R_reads' hR3).2.2 (Kd.C_below HA.out (In.trans h12 hi3).out))
    rw [← HFL.out]
    have h13 := In.trans h12 hi3
    have hne3 : ((s.length : Int) != (s.length : Int)) = false := by simp
    clear hR3
    go_wp2_with fail
    refine HEQ3.out.mono ?_
    rintro e w4 ⟨rfl, hd4⟩
    have h14 := In.drawn h13 hd4
    have hi24 := In.drawn hi3 hd4
    clear HEQ3 hd4
    obtain ⟨k, hk⟩ := Int.eq_ofNat_of_zero_le (pickI_range cut (s.length + 1)).1
    have hkl : k ≤ s.length := by have := (pickI_range cut (s.length + 1)).2.1 (by omega); omega
    have hpick := Lib.hid (pick_k cut (s.length + 1) k hk ((s.length : Int) + 1) (by simp) w4 (by omega))
    clear hk hne3
    go_wp2_with fail
    refine hpick.out.mono ?_
    rintro e w4' ⟨rfl, rfl⟩
    clear hpick
    go_wp2_with fail
    go_loop [12, 13] (fun x y => ∃ j : Nat, j ≤ l.length ∧ x = .int .i64 j ∧ y = .int .i64 (Frm.size (l.take j)) ∧ Frm.size (l.take j) ≤ k) (fun x _ => l.length - (intOf x).toNat)
    case atStart => exact ⟨0, by omega, rfl, rfl, Nat.zero_le _⟩
    case round =>
      obtain ⟨j, hj, rfl, rfl, hsk⟩ := hrel
      obtain ⟨a, ha⟩ : ∃ a, a = Frm.size (l.take j) := ⟨_, rfl⟩
      have Ha := Lib.hid ha
      rw [← ha] at hsk ⊢
      clear ha
      by_cases hgo : ∃ f, l[j]? = some f ∧ a + (9 + f.d.length) ≤ k
      · obtain ⟨f0, hx0, hle0⟩ := hgo
        have hlt : j < l.length := (List.getElem?_eq_some_iff.1 hx0).1
        obtain ⟨ad, f, A5, c5, rfl, hx, q0, q1, hle5, hC5⟩ := frK_at (Kd.C_below HA.out h14.out) hlt
        obtain rfl : f0 = f := by rw [hx0] at hx; exact Option.some.inj hx
        have hsn := Lib.hid (Frm.size_snoc hx)
        clear hx hx0 hC5 q0
        have hd1 : decide ((a : Int) + 9 + (f0.d.length : Int) ≤ (k : Int)) = true := decide_eq_true (by omega)
        go_wp2_with fail
        go_round
        case rel => exact ⟨j + 1, by omega, by go_num, by rw [hsn.out, ← Ha.out]; congr 1; omega, by rw [hsn.out, ← Ha.out]; omega⟩
        case measure => simp [intOf]; omega
      · have hstop := Lib.hid (show ∀ f, l[j]? = some f → k < Frm.size (l.take j) + (9 + f.d.length) from fun f hf => by
          rw [← Ha.out]
          exact Nat.lt_of_not_le (fun h => hgo ⟨f, hf, h⟩))
        obtain ⟨hcut, hF⟩ := bcut_to A2 (c := c2) (n := s.length) (m := k) (k : Int) rfl hkl hle2
        have hCk := Lib.hid (Kd.F_now (hF w4 (fun _ => True) s (Kd.F_mono (Kd.C_F Kd.heap_scalar (Kd.C_below HC2.out hi24.out)) (fun _ _ => trivial))))
        have hkc : k ≤ c2 := by omega
        have hgk := Lib.hid (show Frm.get (s.take k) = l.take j by rw [HS.out]; exact Frm.get_cut hlg.out hj (by rw [← Ha.out]; exact hsk) hstop.out)
        have hfc := fcut_to (A := A) (c := c) (n := l.length) (m := j) (j : Int) rfl hj hlc
        have hCj := Lib.hid (fr_drop (Kd.C_below HA.out h14.out) hj)
        clear hF
        by_cases hlt : j < l.length
        case' pos =>
          obtain ⟨ad, f, A5, c5, rfl, hx, q0, q1, hle5, hC5⟩ := frK_at (Kd.C_below HA.out h14.out) hlt
          have hst := hstop.out f hx
          have hfb : f.d.length ≤ 72000 := by
            have := Frm.size_snoc hx
            have := Frm.size_le l (j + 1)
            have := HFL.out
            omega
          rw [← Ha.out] at hst
          have hd1 : decide ((a : Int) + 9 + (f.d.length : Int) ≤ (k : Int)) = false := decide_eq_false (by omega)
          clear hgo hx hC5 q0
          go_upto_region 16 with (fail)
          clear q1 hd1 hst
        case' neg =>
          have hd1 : decide ((j : Int) < (l.length : Int)) = false := decide_eq_false (by omega)
          have hd2 : decide (j < l.length) = false := decide_eq_false hlt
          clear hgo
          go_upto_region 16 with (fail)
          clear hd1 hd2
        all_goals
          go_wp2_with fail
          (with_reducible refine (get_any hCk.out hkc (by rw [List.length_take]; omega)).mono ?_)
          rintro e w5 ⟨v5, rfl, hR5, hi5⟩
          rw [hgk.out] at hR5 ⊢
          rw [← Ha.out]
          obtain ⟨A5, c5, rfl⟩ := Kd.R_slice hR5
          have htl : (l.take j).length = j := by rw [List.length_take]; omega
          rw [htl]
          have hC5 := (Kd.R_reads' hR5).2.2
          rw [htl] at hC5
          have h15 := In.trans h14 hi5
          have HEQ5 := Lib.hid (equal_n (c := c5) (d := c) hC5 (Kd.C_below hCj.out hi5.out))
          have hna : ((a : Int) != (a : Int)) = false := by simp
          clear hR5 htl hC5
          go_wp2_with fail
          refine HEQ5.out.mono ?_
          rintro e w6 ⟨rfl, hd6⟩
          have h16 := In.drawn h15 hd6
          have hi26 := In.drawn (In.trans hi24 hi5) hd6
          clear HEQ5 hd6 hfc
          by_cases hs0 : s.length = 0
          · have hq0 : ((s.length : Int) == 0) = true := by rw [beq_iff_eq]; omega
            clear hs0
            go_wp2_with fail
            go_ret
            exact ⟨rfl, h16.out⟩
          have hq0 : ((s.length : Int) == 0) = false := by rw [beq_eq_false_iff_ne]; omega
          have hpos : 0 < s.length := by omega
          obtain ⟨i, hi⟩ := Int.eq_ofNat_of_zero_le (pickI_range bit (8 * s.length)).1
          have hil : i < 8 * s.length := by have := (pickI_range bit (8 * s.length)).2.1 (by omega); omega
          have hpick := Lib.hid (pick_k bit (8 * s.length) i hi (8 * (s.length : Int)) (by simp) w6 (by omega))
          clear hi hs0
          go_wp2_with fail
          refine hpick.out.mono ?_
          rintro e w6' ⟨rfl, rfl⟩
          clear hpick hq0 hna
          go_wp2_with fail
          have hslt : s.length = Frm.size (l.take l.length) := by rw [List.take_length]; exact HFL.out
          have HSL := Lib.hid hslt
          clear hslt
          go_loop [12, 13] (fun x y => ∃ j : Nat, j < l.length ∧ x = .int .i64 j ∧ y = .int .i64 (Frm.size (l.take j)) ∧ Frm.size (l.take j) ≤ i / 8) (fun x _ => l.length - (intOf x).toNat)
          case atStart =>
            refine ⟨0, ?_, rfl, rfl, Nat.zero_le _⟩
            rcases Nat.eq_zero_or_pos l.length with h | h
            · have h0 : s.length = 0 := by rw [HFL.out, List.length_eq_zero_iff.1 h]; rfl
              omega
            · exact h
          case round =>
            clear Ha hstop hgk hCj hlt hj hsk
            obtain ⟨j2, hj2, rfl, rfl, hsi⟩ := hrel
            obtain ⟨a2, ha2⟩ : ∃ a, a = Frm.size (l.take j2) := ⟨_, rfl⟩
            have Ha := Lib.hid ha2
            rw [← ha2] at hsi ⊢
            clear ha2
            obtain ⟨ad2, f2, A7, c7, hA7, hx, q0, q1, hle7, hC7⟩ := frK_at (Kd.C_below HA.out h16.out) hj2
            first | subst hA7 | (injection hA7 with hA7; obtain rfl := hA7.symm)
            have hsn := Lib.hid (Frm.size_snoc hx)
            have hfb : f2.d.length ≤ 72000 := by
              have := Frm.size_snoc hx
              have := Frm.size_le l (j2 + 1)
              have := HFL.out
              omega
            have HX := Lib.hid hx
            clear hx hC7 q0
            have hi8 : i / 8 < s.length := by omega
            by_cases hgo : a2 + (9 + f2.d.length) ≤ i / 8
            · have hj3 : j2 + 1 < l.length := by
                have h1 := hsn.out
                rw [← Ha.out] at h1
                have h2 := HSL.out
                rcases Nat.lt_or_ge (j2 + 1) l.length with h | h
                · exact h
                · rw [show l.length = j2 + 1 from by omega, h1] at h2
                  omega
              have hd1 : decide ((a2 : Int) + 9 + (f2.d.length : Int) ≤ (i : Int) / 8) = true := decide_eq_true (by omega)
              go_wp2_with fail
              go_round
              case rel => exact ⟨j2 + 1, hj3, by go_num, by rw [hsn.out, ← Ha.out]; congr 1; omega, by rw [hsn.out, ← Ha.out]; omega⟩
              case measure => simp [intOf]; omega
            · have hd1 : decide ((a2 : Int) + 9 + (f2.d.length : Int) ≤ (i : Int) / 8) = false := decide_eq_false (by omega)
              have hlow : i / 8 < Frm.size (l.take j2) + (9 + f2.d.length) := by rw [← Ha.out]; omega
              have hlt2 := Lib.hid (Frm.get_turn hlg.out HX.out (by rw [← Ha.out]; exact hsi) hlow)
              rw [← HS.out, ← Ha.out] at hlt2
              clear hgo hlow
              go_upto_region 27 with (fail)
              clear hd1 q1
              have HO0 := Lib.hid (empty_mine w6)
              have hb6 := (Below.refl w6.heap.size w6).alloc (Nat.le_refl _) (.cells #[] 5)
              have HR6 := Lib.hid (byte_reads (Kd.C_below (Kd.C_below HC2.out hi26.out) hb6))
              go_wp2_with (at_builtin; refine print_append_row_of encB (0 : UInt8) (w0 := w6) w6.heap.size rfl (.tmp 131) (.tmp 132) 34 5 (.int .u8 0) 1 rfl Try.underlying34 info5 rfl (by decide) (fun _ => rfl) _ [] s A2 s.length c2 rfl rfl HO0.out HR6.out hb6 hb6.size (by simp; omega) ?_)
              intro v7 w7 ho7 hb7 hg7 hat7
              obtain ⟨g, c7', rfl, hgb, hgl⟩ := ho7.form hpos
              have h67 : In w6 w7 := hb7
              have HO7 := Lib.hid ho7
              clear HO0 hb6 HR6 hg7 hat7 ho7 hb7
              obtain ⟨hcell, hfrz⟩ := own_byte HO7.out (i / 8) hi8
              generalize hy : s.getD (i / 8) 0 = y at *
              have HY := Lib.hid hy
              clear hy
              have hylt := y.toNat_lt
              have htb := turn8b y (j := i % 8) (by omega)
              have hp := own_byte_put HO7.out (i / 8) (Crc.turnB y (i % 8))
              rw [Crc.turnAt_mk HY.out] at hp
              have h78 := (In.refl w7).out
              have h68 : In w6 (w7.setCell ⟨g, i / 8, none⟩ (.int .u8 ((Crc.turnB y (i % 8)).toNat : Int))) := In.set h67 hgb (i / 8) _
              have HP := Lib.hid hp
              clear hp
              go_upto_region 29 with (fail)
              clear hcell hfrz htb
              generalize w7.setCell ⟨g, i / 8, none⟩ (.int .u8 ((Crc.turnB y (i % 8)).toNat : Int)) = w8 at *
              have hle8 := own_le HP.out
              have hC8 := Lib.hid (byte_of_reads (own_reads_of' (d := (0 : UInt8)) HP.out))
              have htl := Crc.turnAt_length s i
              obtain ⟨r, hr1, hr2⟩ := hlt2
              obtain ⟨Z, hZ⟩ : ∃ Z, Z = l.take j2 ++ r := ⟨_, rfl⟩
              rw [← hZ] at hr1
              have HR1 := Lib.hid hr1
              have HR2 := Lib.hid hr2
              have HZ := Lib.hid hZ
              have hzj : j2 ≤ Z.length := by rw [hZ, List.length_append, List.length_take]; omega
              have hzt := Lib.hid (show Z.take j2 = l.take j2 by
                rw [hZ]
                have h1 : (l.take j2).length = j2 := by rw [List.length_take]; omega
                conv => lhs; rw [← h1]
                rw [h1]
                exact List.take_left' h1)
              have hGG := Lib.hid (get_any hC8.out hle8 (by omega))
              clear hr1 hr2 hZ htl
              go_wp2_with fail
              refine hGG.out.mono ?_
              rintro e w9 ⟨v9, rfl, hR9, hi9⟩
              rw [HR1.out] at hR9 ⊢
              obtain ⟨A9, c9, rfl⟩ := Kd.R_slice hR9
              have hle9 := (Kd.R_reads' hR9).2.1
              have h19 := In.trans (In.trans h16 h68) hi9
              obtain ⟨w0, n0, rfl⟩ : ∃ w0 n0, w9 = World.drewN w0 n0 := ⟨w9, 0, rfl⟩
              have hC9 := fr_drop (Kd.R_reads' hR9).2.2 hzj
              rw [hzt.out] at hC9
              have hC9b := fr_drop (Kd.C_below HA.out h19.out) (Nat.le_of_lt hj2)
              have HEQ9 := Lib.hid (fun q : Nat => quiet_drawn (n := q) (m := n0) (w := w0) (equal_n (A := A9) (B := some ad2) (n := j2) (c := c9) (d := c) (xs := l.take j2) (by rw [← World.drewN_drewN]; exact Kd.C_below hC9 (pw_below_drewN (Below.refl _ _) _)) (by rw [← World.drewN_drewN]; exact Kd.C_below hC9b (pw_below_drewN (Below.refl _ _) _))))
              clear hC9 hC9b
              clear hR9 hGG
              go_upto_region 30 with (fail)
              have hfc1 := fcut_to (A := A9) (c := c9) (n := Z.length) (m := j2) (j2 : Int) rfl hzj hle9
              have hfc2 := fcut_to (A := some ad2) (c := c) (n := l.length) (m := j2) (j2 : Int) rfl (by omega) hlc
              have hdz : decide (Z.length < j2) = false := decide_eq_false (by omega)
              go_quiet ((go_at_call 35; exact HEQ9.out _))
              have hw8 : (0 : Int) ≤ (i : Int) / 8 - (a2 : Int) := by omega
              have hw9 : (i : Int) / 8 - (a2 : Int) ≤ 72000 := by omega
              clear HEQ9 hfc1 hfc2 hdz
              by_cases h4 : i / 8 < a2 + 4
              · have hd4 : decide ((i : Int) / 8 - (a2 : Int) < 4) = true := decide_eq_true (by omega)
                go_wp2_with fail
                go_ret
                exact ⟨rfl, by rw [← World.drewN_drewN]; exact (In.drewN h19 _).out⟩
              · have hd4 : decide ((i : Int) / 8 - (a2 : Int) < 4) = false := decide_eq_false (by omega)
                have hrn := HR2.out (by omega)
                have hzl : ((Z.length : Int) == (j2 : Int)) = true := by
                  rw [beq_iff_eq, HZ.out, hrn, List.append_nil, List.length_take]
                  omega
                have hzs : ((Frm.size Z : Int) == (a2 : Int)) = true := by
                  rw [beq_iff_eq, HZ.out, hrn, List.append_nil, Ha.out]
                clear hrn
                go_wp2_with fail
                go_ret
                exact ⟨rfl, by rw [← World.drewN_drewN]; exact (In.drewN h19 _).out⟩
end Go.Proofs.Ytkoofoglcheonaa
