/- The walk of SumTurned. -/
import Derived.Test.YtkoofoglcheonaaOrd
import Derived.Test.YtkoofoglcheonaaCrcTurn
namespace Go.Proofs.Ytkoofoglcheonaa
set_option linter.unusedVariables false
set_option linter.unusedSimpArgs false
open Go.RowKit Go.Proofs.YtkoofoglcheonaaW.PrintWords

theorem beq_false_of_ne' {a b : Nat} (h : a ≠ b) : ((a : Int) == (b : Int)) = false := by rw [beq_eq_false_iff_ne]; omega
theorem turn8_spelt (y : UInt8) {j : Nat} (hj : j < 8) : bits .xor .u8 (y.toNat : Int) ((2 : Int) ^ j % 256) = ((Crc.turnB y j).toNat : Int) := by
  have h1 : (2 : Nat) ^ j < 2 ^ 8 := Nat.pow_lt_pow_right (by omega) hj
  have h2 : ((2 : Int) ^ j % 256) = ((2 ^ j : Nat) : Int) := by
    have h3 : ((2 : Int) ^ j) = ((2 ^ j : Nat) : Int) := by simp
    rw [h3]
    generalize (2 : Nat) ^ j = q at *
    omega
  rw [h2, bits_xor_u8 _ _ y.toNat_lt (by omega), Crc.turnB_toNat y hj]
theorem sum1n {g n : Nat} {A : Option Addr} {c : Nat} {xs : List UInt8} {W : World} (h : W.cell? ⟨g, 0, none⟩ = some (.slice A n c)) (hle : n ≤ c) (hC : byte.C W A n xs) :
    Calls Try.prog 14 #[.slice (some ⟨g, 0, none⟩) 1 1] W fun e w' => e = .returned (.int .u32 (Crc.sum xs : Nat)) ∧ Below W.heap.size W w' := by
  obtain rfl := hC.1
  exact sum1 h hle hC
theorem own_below {w w' : World} {B e size n : Nat} {v : Value} {xs : List Value} (h : w.ownsRow B e size v n xs) (hb : Below w.heap.size w w') : w'.ownsRow B e size v n xs := by
  refine ⟨h.1, ?_⟩
  rcases h.2 with hn | ⟨g, cap, cur, rfl, hg, hgg, rest⟩
  · exact .inl hn
  · exact .inr ⟨g, cap, cur, rfl, hg, by rw [hb.block g (Array.getElem?_eq_some_iff.1 hgg).1]; exact hgg, rest⟩
theorem bne_true_of_ne' {a b : Nat} (h : a ≠ b) : ((a : Int) != (b : Int)) = true := by
  rw [bne_iff_ne]; omega
theorem bit_spelt (B j : Nat) (hB : B < 4294967296) : bits .and .u32 ((B : Int) / (2 : Int) ^ j) 1 = ((B / 2 ^ j % 2 : Nat) : Int) := by
  have h1 : ((2 : Int) ^ j) = ((2 ^ j : Nat) : Int) := by simp
  have h2 : B / 2 ^ j ≤ B := Nat.div_le_self _ _
  have := bits_and_u32 (B / 2 ^ j) 1 (by omega) (by decide)
  rw [and_one'] at this
  rw [h1, ← Int.natCast_ediv]
  exact this
theorem burst_one {B j : Nat} (h : B / 2 ^ j % 2 = 1) : decide (B % 2 ^ (j + 1) ≠ 0) = true := by
  have h1 := Crc.mod_succ B j
  rw [h, Nat.mul_one] at h1
  have h2 := Nat.two_pow_pos j
  simp only [decide_eq_true_eq]
  omega
theorem burst_zero {B j : Nat} (h : B / 2 ^ j % 2 = 0) : decide (B % 2 ^ (j + 1) ≠ 0) = decide (B % 2 ^ j ≠ 0) := by
  rw [Crc.mod_succ B j, h, Nat.mul_zero, Nat.add_zero]
set_option maxRecDepth 100000 in
set_option maxHeartbeats 1600000 in
theorem sumTurned_any (w : World) (A : Option Addr) (c : Nat) (xs : List UInt8) (hA : byte.C w A xs.length xs) (hn : xs.length ≤ 200000000000000) (hc : xs.length ≤ c) (at_ far : Int) (burst : Nat) (hb : burst < 4294967296) :
    Calls Try.prog 6 #[.slice A xs.length c, .int .i64 at_, .int .i64 far, .int .u32 burst] w fun e w' => e = .returned (.bool true) ∧ Below w.heap.size w w' := by
  go_enter Try.func6, Try.ntmps6
  go_wp2_with fail
  refine (awake_any _).mono ?_
  rintro e w1 ⟨rfl, hb1⟩
  have hg := Lib.hid (great_any (some ⟨w1.heap.size, 0, none⟩) 1 [xs] _ (row_one (c := c) rfl (Kd.C_below hA hb1) hc) (by simp) (by simpa using hn))
  have hb1a := hb1.alloc hb1.size (.cells #[.slice A xs.length c] 34)
  go_wp2_with fail
  refine hg.out.mono ?_
  rintro e w2 ⟨b, rfl, rfl, hsm⟩
  clear hg
  cases b with
  | true =>
    clear hsm
    go_wp2_with fail
    go_ret
    exact ⟨rfl, hb1a⟩
  | false =>
    have hsm1 : xs.length ≤ 20000 := by
      have := hsm rfl
      simp [total] at this
      omega
    clear hsm
    obtain ⟨w2, hw2⟩ : ∃ w2 : World, w2 = w1.alloc (.cells #[.slice A xs.length c] 34) := ⟨_, rfl⟩
    rw [← hw2] at hb1a ⊢
    clear hw2
    by_cases h0 : xs.length = 0
    · have hz : ((xs.length : Int) == 0) = true := by rw [h0]; rfl
      have H0 := Lib.hid h0
      clear h0
      go_wp2_with fail
      go_ret
      exact ⟨rfl, hb1a⟩
    · have hz : ((xs.length : Int) == 0) = false := by rw [beq_eq_false_iff_ne]; omega
      have hpos : 0 < xs.length := by omega
      clear h0
      have HA := Lib.hid (Kd.C_below hA hb1a)
      clear hA
      have hsx := Crc.sum_lt xs
      go_wp2_with fail
      refine (sum1 (A := A) (c := c) (xs := xs) (by go_simp) hc (Kd.C_below HA.out (below_alloc (Below.refl _ _) _))).mono ?_
      rintro e w3 ⟨rfl, hb3⟩
      have hin3 := ((In.refl w2).alloc (.cells #[.slice A xs.length c] 34)).next hb3
      clear hb3
      obtain ⟨k, hk⟩ := Int.eq_ofNat_of_zero_le (pickI_range at_ (8 * xs.length)).1
      have hkn : k < 8 * xs.length := by have := (pickI_range at_ (8 * xs.length)).2.1 (by omega); omega
      have hpick := Lib.hid (pick_k at_ (8 * xs.length) k hk (8 * (xs.length : Int)) (by simp) w3 (by omega))
      clear hk
      go_wp2_with fail
      refine hpick.out.mono ?_
      rintro e w4 ⟨rfl, rfl⟩
      clear hpick
      have HO0 := Lib.hid (empty_cut (W := w3) w3.heap.size (Nat.le_refl _))
      have hb4 := (Below.refl w3.heap.size w3).alloc (Nat.le_refl _) (.cells #[] 5)
      have HR := Lib.hid (byte_reads (Kd.C_below HA.out (hin3.alloc (.cells #[] 5)).out))
      go_wp2_with (at_builtin; refine print_append_row_of encB (0 : UInt8) w3.heap.size rfl (.tmp 36) (.tmp 37) 34 5 (.int .u8 0) 1 rfl Try.underlying34 info5 rfl (by decide) (fun _ => rfl) _ [] xs A xs.length c rfl rfl HO0.out HR.out hb4 hb4.size (by simp; omega) ?_)
      intro v5 w5 ho5 hb5 hg5 hat5
      clear HO0 HR hb4 hg5 hat5
      obtain ⟨g, c5, rfl, hgb, hgl⟩ := ho5.form hpos
      have HO5 := Lib.hid ho5
      clear ho5
      have hin5 : In w2 w5 := hin3.next hb5
      have hk8 : k / 8 < xs.length := by omega
      obtain ⟨hcell, hfrz⟩ := own_byte HO5.out (k / 8) hk8
      generalize hy : xs.getD (k / 8) 0 = y at *
      have HY := Lib.hid hy
      clear hy
      have hylt := y.toNat_lt
      have htb := turn8_spelt y (j := k % 8) (by omega)
      have hone := beq_false_of_ne' (Crc.sum_one hkn)
      go_wp2_with fail
      have hp := own_byte_put HO5.out (k / 8) (Crc.turnB y (k % 8))
      rw [Crc.turnAt_mk HY.out] at hp
      have hin6 := hin5.set (g := g) (by have := hin3.size; omega) (k / 8) (.int .u8 ((Crc.turnB y (k % 8)).toNat : Int))
      obtain ⟨w6, hw6⟩ : ∃ w6 : World, w6 = w5.setCell ⟨g, k / 8, none⟩ (.int .u8 ((Crc.turnB y (k % 8)).toNat : Int)) := ⟨_, rfl⟩
      rw [← hw6] at hp hin6 ⊢
      have hgl6 : g < w6.heap.size := by rw [hw6]; simpa [World.setCell] using hgl
      have hsz6 : w5.heap.size = w6.heap.size := by rw [hw6]; simp [World.setCell]
      rw [hsz6]
      clear hw6 htb hcell hfrz HY hin5 HO5
      have hle6 := own_le hp
      have hl1 := Crc.turnAt_length xs k
      have HP := Lib.hid hp
      have hC6 := byte_of_reads (own_reads_of' (d := (0 : UInt8)) hp)
      clear hp
      refine (sum1n (A := some ⟨g, 0, none⟩) (c := c5) (n := xs.length) (xs := Crc.turnAt xs k) (by go_simp) hle6 (Kd.C_below hC6 (below_alloc (Below.refl _ _) _))).mono ?_
      rintro e w7 ⟨rfl, hb7⟩
      have hin7 := (hin6.alloc (.cells #[.slice (some ⟨g, 0, none⟩) xs.length c5] 34)).next hb7
      have HP7 := Lib.hid (own_below HP.out (((In.refl w6).alloc (.cells #[.slice (some ⟨g, 0, none⟩) xs.length c5] 34)).next hb7).out)
      have hgl7 : g < w7.heap.size := Nat.lt_of_lt_of_le hgl6 (((In.refl w6).alloc (.cells #[.slice (some ⟨g, 0, none⟩) xs.length c5] 34)).next hb7).size
      have hgw : w2.heap.size ≤ g := by have := hin3.size; omega
      clear hb7 hC6 hin6 HP hle6
      obtain ⟨p, hp⟩ := Int.eq_ofNat_of_zero_le (pickI_range far 32767).1
      have hpn : p < 32767 := by have := (pickI_range far 32767).2.1 (by omega); omega
      have hpick2 := Lib.hid (pick_k far 32767 p hp 32767 (by simp) w7 (by omega))
      clear hp
      go_wp2_with fail
      refine hpick2.out.mono ?_
      rintro e w8 ⟨rfl, rfl⟩
      clear hpick2
      obtain ⟨m, hm⟩ : ∃ m : Nat, (k : Int) + 1 + (p : Int) = (m : Int) := ⟨k + 1 + p, by omega⟩
      by_cases hmn : m < 8 * xs.length
      · have hm8 : m / 8 < xs.length := by omega
        obtain ⟨hcell, hfrz⟩ := own_byte HP7.out (m / 8) hm8
        generalize hy : (Crc.turnAt xs k).getD (m / 8) 0 = y2 at *
        have HY := Lib.hid hy
        clear hy
        have hylt2 := y2.toNat_lt
        have htb := turn8_spelt y2 (j := m % 8) (by omega)
        have htwo := beq_false_of_ne' (Crc.sum_two (b := xs) (k := k) (m := m) (by omega) (by omega) (by omega))
        go_wp2_with fail
        have hp := own_byte_put HP7.out (m / 8) (Crc.turnB y2 (m % 8))
        rw [Crc.turnAt_mk HY.out] at hp
        have hin9 := hin7.set hgw (m / 8) (.int .u8 ((Crc.turnB y2 (m % 8)).toNat : Int))
        obtain ⟨w9, hw9⟩ : ∃ w9 : World, w9 = w7.setCell ⟨g, m / 8, none⟩ (.int .u8 ((Crc.turnB y2 (m % 8)).toNat : Int)) := ⟨_, rfl⟩
        rw [← hw9] at hp hin9 ⊢
        have hsz9 : w7.heap.size = w9.heap.size := by rw [hw9]; simp [World.setCell]
        rw [hsz9]
        have hle9 := own_le hp
        have hC9 := byte_of_reads (own_reads_of' (d := (0 : UInt8)) hp)
        clear hw9 htb hcell hfrz HY hp HP7 hin7
        refine (sum1n (A := some ⟨g, 0, none⟩) (c := c5) (n := xs.length) (xs := Crc.turnAt (Crc.turnAt xs k) m) (by go_simp) hle9 (Kd.C_below hC9 (below_alloc (Below.refl _ _) _))).mono ?_
        rintro e w10 ⟨rfl, hb10⟩
        have hin10 := (hin9.alloc (.cells #[.slice (some ⟨g, 0, none⟩) xs.length c5] 34)).next hb10
        clear hin9 hb10 hC9 hsz9
        obtain ⟨wz, rfl⟩ : ∃ wz : World, wz = w10 := ⟨_, rfl⟩
        have hinz := hin10
        clear hin10
        have HO0 := Lib.hid (empty_cut (W := wz) wz.heap.size (Nat.le_refl _))
        have hb4 := (Below.refl wz.heap.size wz).alloc (Nat.le_refl _) (.cells #[] 5)
        have HR := Lib.hid (byte_reads (Kd.C_below HA.out (hinz.alloc (.cells #[] 5)).out))
        go_wp2_with (at_builtin; refine print_append_row_of encB (0 : UInt8) wz.heap.size rfl (.tmp 79) (.tmp 80) 34 5 (.int .u8 0) 1 rfl Try.underlying34 info5 rfl (by decide) (fun _ => rfl) _ [] xs A xs.length c rfl rfl HO0.out HR.out hb4 hb4.size (by simp; omega) ?_)
        intro v11 w11 ho11 hb11 hg11 hat11
        clear HO0 HR hb4 hg11 hat11
        obtain ⟨g2, c11, rfl, hgb2, hgl2⟩ := ho11.form hpos
        have HO11 := Lib.hid ho11
        clear ho11
        have hin11 : In w2 w11 := hinz.next hb11
        have hg2w : w2.heap.size ≤ g2 := by have := hinz.size; omega
        have hgl11 : g2 < w11.heap.size := hgl2
        clear hb11 hgb2 hgl2
        go_wp2_with fail
        go_loopw [15, 16] (fun b i ww => ∃ j : Nat, j ≤ 32 ∧ k + j ≤ 8 * xs.length ∧ i = .int .i64 j ∧ b = .bool (decide (burst % 2 ^ j ≠ 0)) ∧ ww.ownsRow wz.heap.size 5 1 (.slice (some ⟨g2, 0, none⟩) xs.length c11) xs.length (encs encB (Crc.burstAt xs k burst j)) ∧ In w2 ww) (fun _ i _ => 32 - (intOf i).toNat)
        case atStart => exact ⟨0, by omega, by omega, rfl, by simp [Nat.mod_one], HO11.out, hin11⟩
        case round =>
          clear HO11 hin11
          obtain ⟨j, hj, hkj, rfl, rfl, ho, hinr⟩ := hrel
          have HO := Lib.hid ho
          clear ho
          by_cases hlt : j < 32 ∧ k + j < 8 * xs.length
          · obtain ⟨hj32, hkj2⟩ := hlt
            have hbl := Crc.burstAt_length xs k burst j
            obtain ⟨hcell, hfrz⟩ := own_byte HO.out ((k + j) / 8) (by omega)
            generalize hy : (Crc.burstAt xs k burst j).getD ((k + j) / 8) 0 = y3 at *
            have HY := Lib.hid hy
            clear hy
            have hd1 : decide ((j : Int) < 32) = true := by simp; omega
            have hylt3 := y3.toNat_lt
            have htb := turn8_spelt y3 (j := (k + j) % 8) (by omega)
            have hbs := bit_spelt burst j hb
            by_cases hbit : burst / 2 ^ j % 2 = 1
            · rw [hbit] at hbs
              have hnz := burst_one hbit
              have hp := own_byte_put HO.out ((k + j) / 8) (Crc.turnB y3 ((k + j) % 8))
              rw [Crc.turnAt_mk HY.out] at hp
              have HP := Lib.hid hp
              have hinq := hinr.set hg2w ((k + j) / 8) (.int .u8 ((Crc.turnB y3 ((k + j) % 8)).toNat : Int))
              have hba := Lib.hid (show Crc.burstAt xs k burst (j + 1) = Crc.turnAt (Crc.burstAt xs k burst j) (k + j) by rw [Crc.burstAt, if_pos hbit])
              clear hp hbit
              go_wp2_with fail
              go_roundw
              case rel => exact ⟨j + 1, by omega, by omega, by go_num, by rw [hnz], by rw [hba.out]; exact HP.out, hinq⟩
              case measure => simp [intOf]; omega
            · obtain hbit0 : burst / 2 ^ j % 2 = 0 := by omega
              rw [hbit0] at hbs
              have hsm := Lib.hid (burst_zero hbit0)
              have hba := Lib.hid (show Crc.burstAt xs k burst (j + 1) = Crc.burstAt xs k burst j by rw [Crc.burstAt, if_neg hbit])
              clear hbit hbit0
              go_wp2_with fail
              go_roundw
              case rel => exact ⟨j + 1, by omega, by omega, by go_num, by rw [hsm.out], by rw [hba.out]; exact HO.out, hinr⟩
              case measure => simp [intOf]; omega
          · have hle11 := own_le HO.out
            have hC11 := byte_of_reads (own_reads_of' (d := (0 : UInt8)) HO.out)
            clear HO
            by_cases hz2 : burst % 2 ^ j = 0
            · have hd0 : decide (burst % 2 ^ j ≠ 0) = false := by simpa using hz2
              rw [hd0]
              clear hd0 hz2
              have hd1 : (decide ((j : Int) < 32) && decide ((k : Int) + (j : Int) < 8 * (xs.length : Int))) = false := by simp; omega
              by_cases hj32 : j < 32
              · have hd1 : decide ((j : Int) < 32) = true := by simp; omega
                have hd2 : decide ((k : Int) + (j : Int) < 8 * (xs.length : Int)) = false := by simp; omega
                go_wp2_with fail
                go_ret
                exact ⟨rfl, below_then hb1a hb1a.size hinr.out⟩
              · obtain rfl : j = 32 := by omega
                go_wp2_with fail
                go_ret
                exact ⟨rfl, below_then hb1a hb1a.size hinr.out⟩
            · have hd0 : decide (burst % 2 ^ j ≠ 0) = true := by simpa using hz2
              rw [hd0]
              clear hd0
              have hne := bne_true_of_ne' (Crc.sum_burstAt (bs := xs) (k := k) (B := burst) (i := j) hj hkj hz2)
              clear hz2
              by_cases hj32 : j < 32
              · have hd1 : decide ((j : Int) < 32) = true := by simp; omega
                have hd2 : decide ((k : Int) + (j : Int) < 8 * (xs.length : Int)) = false := by simp; omega
                go_wp2_with fail
                refine (sum1n (A := some ⟨g2, 0, none⟩) (c := c11) (n := xs.length) (xs := Crc.burstAt xs k burst j) (by go_simp) hle11 (Kd.C_below hC11 (below_alloc (Below.refl _ _) _))).mono ?_
                rintro e wq ⟨rfl, hbq⟩
                have hinq := (hinr.alloc (.cells #[.slice (some ⟨g2, 0, none⟩) xs.length c11] 34)).next hbq
                go_wp2_with fail
                go_ret
                exact ⟨rfl, below_then hb1a hb1a.size hinq.out⟩
              · obtain rfl : j = 32 := by omega
                go_wp2_with fail
                refine (sum1n (A := some ⟨g2, 0, none⟩) (c := c11) (n := xs.length) (xs := Crc.burstAt xs k burst 32) (by go_simp) hle11 (Kd.C_below hC11 (below_alloc (Below.refl _ _) _))).mono ?_
                rintro e wq ⟨rfl, hbq⟩
                have hinq := (hinr.alloc (.cells #[.slice (some ⟨g2, 0, none⟩) xs.length c11] 34)).next hbq
                go_wp2_with fail
                go_ret
                exact ⟨rfl, below_then hb1a hb1a.size hinq.out⟩
      · obtain ⟨wz, rfl⟩ : ∃ wz : World, wz = w7 := ⟨_, rfl⟩
        have hinz := hin7
        clear hin7 HP7
        have HO0 := Lib.hid (empty_cut (W := wz) wz.heap.size (Nat.le_refl _))
        have hb4 := (Below.refl wz.heap.size wz).alloc (Nat.le_refl _) (.cells #[] 5)
        have HR := Lib.hid (byte_reads (Kd.C_below HA.out (hinz.alloc (.cells #[] 5)).out))
        go_wp2_with (at_builtin; refine print_append_row_of encB (0 : UInt8) wz.heap.size rfl (.tmp 79) (.tmp 80) 34 5 (.int .u8 0) 1 rfl Try.underlying34 info5 rfl (by decide) (fun _ => rfl) _ [] xs A xs.length c rfl rfl HO0.out HR.out hb4 hb4.size (by simp; omega) ?_)
        intro v11 w11 ho11 hb11 hg11 hat11
        clear HO0 HR hb4 hg11 hat11
        obtain ⟨g2, c11, rfl, hgb2, hgl2⟩ := ho11.form hpos
        have HO11 := Lib.hid ho11
        clear ho11
        have hin11 : In w2 w11 := hinz.next hb11
        have hg2w : w2.heap.size ≤ g2 := by have := hinz.size; omega
        have hgl11 : g2 < w11.heap.size := hgl2
        clear hb11 hgb2 hgl2
        go_wp2_with fail
        go_loopw [15, 16] (fun b i ww => ∃ j : Nat, j ≤ 32 ∧ k + j ≤ 8 * xs.length ∧ i = .int .i64 j ∧ b = .bool (decide (burst % 2 ^ j ≠ 0)) ∧ ww.ownsRow wz.heap.size 5 1 (.slice (some ⟨g2, 0, none⟩) xs.length c11) xs.length (encs encB (Crc.burstAt xs k burst j)) ∧ In w2 ww) (fun _ i _ => 32 - (intOf i).toNat)
        case atStart => exact ⟨0, by omega, by omega, rfl, by simp [Nat.mod_one], HO11.out, hin11⟩
        case round =>
          clear HO11 hin11
          obtain ⟨j, hj, hkj, rfl, rfl, ho, hinr⟩ := hrel
          have HO := Lib.hid ho
          clear ho
          by_cases hlt : j < 32 ∧ k + j < 8 * xs.length
          · obtain ⟨hj32, hkj2⟩ := hlt
            have hbl := Crc.burstAt_length xs k burst j
            obtain ⟨hcell, hfrz⟩ := own_byte HO.out ((k + j) / 8) (by omega)
            generalize hy : (Crc.burstAt xs k burst j).getD ((k + j) / 8) 0 = y3 at *
            have HY := Lib.hid hy
            clear hy
            have hd1 : decide ((j : Int) < 32) = true := by simp; omega
            have hylt3 := y3.toNat_lt
            have htb := turn8_spelt y3 (j := (k + j) % 8) (by omega)
            have hbs := bit_spelt burst j hb
            by_cases hbit : burst / 2 ^ j % 2 = 1
            · rw [hbit] at hbs
              have hnz := burst_one hbit
              have hp := own_byte_put HO.out ((k + j) / 8) (Crc.turnB y3 ((k + j) % 8))
              rw [Crc.turnAt_mk HY.out] at hp
              have HP := Lib.hid hp
              have hinq := hinr.set hg2w ((k + j) / 8) (.int .u8 ((Crc.turnB y3 ((k + j) % 8)).toNat : Int))
              have hba := Lib.hid (show Crc.burstAt xs k burst (j + 1) = Crc.turnAt (Crc.burstAt xs k burst j) (k + j) by rw [Crc.burstAt, if_pos hbit])
              clear hp hbit
              go_wp2_with fail
              go_roundw
              case rel => exact ⟨j + 1, by omega, by omega, by go_num, by rw [hnz], by rw [hba.out]; exact HP.out, hinq⟩
              case measure => simp [intOf]; omega
            · obtain hbit0 : burst / 2 ^ j % 2 = 0 := by omega
              rw [hbit0] at hbs
              have hsm := Lib.hid (burst_zero hbit0)
              have hba := Lib.hid (show Crc.burstAt xs k burst (j + 1) = Crc.burstAt xs k burst j by rw [Crc.burstAt, if_neg hbit])
              clear hbit hbit0
              go_wp2_with fail
              go_roundw
              case rel => exact ⟨j + 1, by omega, by omega, by go_num, by rw [hsm.out], by rw [hba.out]; exact HO.out, hinr⟩
              case measure => simp [intOf]; omega
          · have hle11 := own_le HO.out
            have hC11 := byte_of_reads (own_reads_of' (d := (0 : UInt8)) HO.out)
            clear HO
            by_cases hz2 : burst % 2 ^ j = 0
            · have hd0 : decide (burst % 2 ^ j ≠ 0) = false := by simpa using hz2
              rw [hd0]
              clear hd0 hz2
              have hd1 : (decide ((j : Int) < 32) && decide ((k : Int) + (j : Int) < 8 * (xs.length : Int))) = false := by simp; omega
              by_cases hj32 : j < 32
              · have hd1 : decide ((j : Int) < 32) = true := by simp; omega
                have hd2 : decide ((k : Int) + (j : Int) < 8 * (xs.length : Int)) = false := by simp; omega
                go_wp2_with fail
                go_ret
                exact ⟨rfl, below_then hb1a hb1a.size hinr.out⟩
              · obtain rfl : j = 32 := by omega
                go_wp2_with fail
                go_ret
                exact ⟨rfl, below_then hb1a hb1a.size hinr.out⟩
            · have hd0 : decide (burst % 2 ^ j ≠ 0) = true := by simpa using hz2
              rw [hd0]
              clear hd0
              have hne := bne_true_of_ne' (Crc.sum_burstAt (bs := xs) (k := k) (B := burst) (i := j) hj hkj hz2)
              clear hz2
              by_cases hj32 : j < 32
              · have hd1 : decide ((j : Int) < 32) = true := by simp; omega
                have hd2 : decide ((k : Int) + (j : Int) < 8 * (xs.length : Int)) = false := by simp; omega
                go_wp2_with fail
                refine (sum1n (A := some ⟨g2, 0, none⟩) (c := c11) (n := xs.length) (xs := Crc.burstAt xs k burst j) (by go_simp) hle11 (Kd.C_below hC11 (below_alloc (Below.refl _ _) _))).mono ?_
                rintro e wq ⟨rfl, hbq⟩
                have hinq := (hinr.alloc (.cells #[.slice (some ⟨g2, 0, none⟩) xs.length c11] 34)).next hbq
                go_wp2_with fail
                go_ret
                exact ⟨rfl, below_then hb1a hb1a.size hinq.out⟩
              · obtain rfl : j = 32 := by omega
                go_wp2_with fail
                refine (sum1n (A := some ⟨g2, 0, none⟩) (c := c11) (n := xs.length) (xs := Crc.burstAt xs k burst 32) (by go_simp) hle11 (Kd.C_below hC11 (below_alloc (Below.refl _ _) _))).mono ?_
                rintro e wq ⟨rfl, hbq⟩
                have hinq := (hinr.alloc (.cells #[.slice (some ⟨g2, 0, none⟩) xs.length c11] 34)).next hbq
                go_wp2_with fail
                go_ret
                exact ⟨rfl, below_then hb1a hb1a.size hinq.out⟩
end Go.Proofs.Ytkoofoglcheonaa
