/- The walk of SumParts. -/
import Derived.Test.YtkoofoglcheonaaOrd
namespace Go.Proofs.Ytkoofoglcheonaa
set_option linter.unusedVariables false
set_option linter.unusedSimpArgs false
open Go.RowKit Go.Proofs.YtkoofoglcheonaaW.PrintWords

def rowsP (xs ys us vs : List UInt8) : Nat → List (List UInt8)
  | 1 => [xs]
  | 2 => [xs, ys]
  | _ => [us, [], vs]
def svals (s1 S : Nat) : Nat → Nat
  | 1 => s1
  | _ => S
theorem sumP {xs ys us vs : List UInt8} {s1 S : Nat} (h1 : Crc.sum xs = s1) (h2 : Crc.sum (xs ++ ys) = S) (h3 : Crc.sum (us ++ vs) = S) {n c : Nat} {A : Option Addr} {W : World} (hA : bytes.C W A n (rowsP xs ys us vs n)) :
    Calls Try.prog 14 #[.slice A n c] W fun e w' => e = .returned (.int .u32 (svals s1 S n : Nat)) ∧ Below W.heap.size W w' := by
  have h := sum_any A n c _ W hA
  have he : Crc.sum (rowsP xs ys us vs n).flatten = svals s1 S n := by
    match n with
    | 0 => simpa [rowsP, svals] using h3
    | 1 => simpa [rowsP, svals] using h1
    | 2 => simpa [rowsP, svals] using h2
    | n + 3 => simpa [rowsP, svals] using h3
  rw [he] at h
  exact h
set_option maxRecDepth 100000 in
set_option maxHeartbeats 1600000 in
theorem sumParts_any (w : World) (A : Option Addr) (c : Nat) (xs : List UInt8) (hA : byte.C w A xs.length xs) (hn : xs.length ≤ 200000000000000) (hc : xs.length ≤ c) (B : Option Addr) (d : Nat) (ys : List UInt8) (hB : byte.C w B ys.length ys) (hm : ys.length ≤ 200000000000000) (hd : ys.length ≤ d)
    (cut : Int) :
    Calls Try.prog 5 #[.slice A xs.length c, .slice B ys.length d, .int .i64 cut] w fun e w' => e = .returned (.bool true) ∧ Below w.heap.size w w' := by
  go_enter Try.func5, Try.ntmps5
  go_wp2_with fail
  refine (awake_any _).mono ?_
  rintro e w1 ⟨rfl, hb1⟩
  have hg := Lib.hid (great_any (some ⟨w1.heap.size, 0, none⟩) 2 [xs, ys] _ (row_two (c := c) (d := d) rfl (Kd.C_below hA hb1) hc (Kd.C_below hB hb1) hd) (by simp) (by simp; omega))
  have hb1a := hb1.alloc hb1.size (.cells #[.slice A xs.length c, .slice B ys.length d] 34)
  go_wp2_with fail
  refine hg.out.mono ?_
  rintro e w2 ⟨b, rfl, rfl, hsm⟩
  cases b with
  | true =>
    clear hsm
    go_wp2_with fail
    go_ret
    exact ⟨rfl, hb1a⟩
  | false =>
    have hsm1 : xs.length + ys.length ≤ 20000 := by
      have := hsm rfl
      simp [total] at this
      omega
    clear hsm hg
    obtain ⟨w2, hw2⟩ : ∃ w2 : World, w2 = w1.alloc (.cells #[.slice A xs.length c, .slice B ys.length d] 34) := ⟨_, rfl⟩
    rw [← hw2] at hb1a ⊢
    clear hw2
    have HO0 := Lib.hid (empty_cut (W := w2) w2.heap.size (Nat.le_refl _))
    have hb3 := (Below.refl w2.heap.size w2).alloc (Nat.le_refl _) (.cells #[] 5)
    have HR := Lib.hid (byte_reads (Kd.C_below hA (below_then hb1a hb1a.size hb3)))
    go_wp2_with (at_builtin; refine print_append_row_of encB (0 : UInt8) w2.heap.size rfl (.tmp 19) (.tmp 20) 34 5 (.int .u8 0) 1 rfl Try.underlying34 info5 rfl (by decide) (fun _ => rfl) _ [] xs A xs.length c rfl rfl HO0.out HR.out hb3 hb3.size (by simp; omega) ?_)
    intro v4 w4 ho4 hb4 hg4 hat4
    have HO4 := Lib.hid ho4
    clear ho4 HO0 HR hb3 hat4 hg4
    have hb4a := below_then hb1a hb1a.size hb4
    have HR4 := Lib.hid (byte_reads (Kd.C_below hB hb4a))
    go_wp2_with (at_builtin; refine print_append_row_of encB (0 : UInt8) w2.heap.size rfl (.tmp 21) (.tmp 22) 34 5 (.int .u8 0) 1 rfl Try.underlying34 info5 rfl (by decide) (fun _ => rfl) _ xs ys B ys.length d rfl rfl HO4.out HR4.out hb4 hb4.size (by omega) ?_)
    intro v5 w5 ho5 hb5 hg5 hat5
    have hb5a := below_then hb1a hb1a.size hb5
    rw [← List.length_append] at ho5
    obtain ⟨A5, c5, rfl, hR5⟩ := own_reads_of (d := (0 : UInt8)) ho5
    have hle5 := own_le ho5
    have hC5 := byte_of_reads hR5
    clear ho5 hR5 hg5 hat5 HO4 HR4 hb4 hb4a hb5
    have hs3 : ∀ k : Nat, Crc.sum ((xs ++ ys).take k ++ (xs ++ ys).drop k) = Crc.sum (xs ++ ys) := fun k => by rw [List.take_append_drop]
    have hs4 := Crc.more_sum xs ys
    have hsl : (xs ++ ys).length ≤ 20000 := by rw [List.length_append]; exact hsm1
    generalize hal : xs ++ ys = al at *
    have HAL := Lib.hid hal
    clear hal
    obtain ⟨k, hk⟩ := Int.eq_ofNat_of_zero_le (pickI_range cut (al.length + 1)).1
    have hkn : k ≤ al.length := by have := (pickI_range cut (al.length + 1)).2.1 (by omega); omega
    have hpick := Lib.hid (pick_k cut (al.length + 1) k hk ((al.length : Int) + 1) (by simp) w5 (by omega))
    have hcu := byte_of_reads ((byte_reads hC5).take_ k hkn)
    obtain ⟨i5i, i5, i5s⟩ := info5s
    obtain ⟨Ad, hcut, hcd⟩ := print_cut_of (P := Try.prog) encB (0 : UInt8) 34 5 .i64 Try.underlying34 i5 i5s A5 al.length c5 k hkn
    have hdr := byte_of_reads (hcd w5 al hle5 (byte_reads hC5))
    clear hcd hk
    have hsa := Crc.sum_lt al
    have hsx := Crc.sum_lt xs
    have HA := Lib.hid (Kd.C_below hA hb5a)
    have HB := Lib.hid (Kd.C_below hB hb5a)
    have HC5 := Lib.hid hC5
    have HCU := Lib.hid hcu
    have HDR := Lib.hid hdr
    have HS3 := Lib.hid (hs3 k)
    have HS4 := Lib.hid hs4
    have HT := Lib.hid hcut
    clear hC5 hcu hdr hs3 hs4 hA hB hcut
    go_wp2_with fail
    refine hpick.out.mono ?_
    rintro e w6 ⟨rfl, rfl⟩
    go_wp2_with fail
    refine (sum1 (A := A5) (c := c5) (xs := al) (by go_simp) hle5 (Kd.C_below HC5.out (below_alloc (Below.refl _ _) _))).mono ?_
    rintro e w7 ⟨rfl, hb7⟩
    have hb57 := (In.refl w5).alloc (.cells #[.slice A5 al.length c5] 34)
    have hin := hb57.next hb7
    clear hb7 hb57
    go_wp2_with fail
    have hA7 := Lib.hid (fun (w' : World) (h : In w7 w') => Kd.C_below HA.out (hin.trans h).out)
    have hB7 := Lib.hid (fun (w' : World) (h : In w7 w') => Kd.C_below HB.out (hin.trans h).out)
    have hU7 := Lib.hid (fun (w' : World) (h : In w7 w') => Kd.C_below HCU.out (hin.trans h).out)
    have hV7 := Lib.hid (fun (w' : World) (h : In w7 w') => Kd.C_below HDR.out (hin.trans h).out)
    have hcut := HT.out
    have hv1 : svals (Crc.sum xs) (Crc.sum al) 1 = Crc.sum xs := rfl
    have hv2 : svals (Crc.sum xs) (Crc.sum al) 2 = Crc.sum al := rfl
    have hv3 : svals (Crc.sum xs) (Crc.sum al) 3 = Crc.sum al := rfl
    have HS2 := Lib.hid (show Crc.sum (xs ++ ys) = Crc.sum al by rw [HAL.out])
    have hk0 : (0 : Int) ≤ (k : Int) := Int.natCast_nonneg _
    have hk1 : (k : Int) ≤ (al.length : Int) := by omega
    have hk2 : (k : Int) ≤ (c5 : Int) := by omega
    go_region_held3 (fun w' => In w7 w') (first | exact In.drew (In.refl _) | exact In.alloc (by assumption) _ | exact In.next (by assumption) (by assumption))
      (first
        | (go_at_call 14; (with_reducible refine Calls.mono (sumP (xs := xs) (ys := ys) (us := al.take k) (vs := al.drop k) (s1 := Crc.sum xs) (S := Crc.sum al) rfl HS2.out HS3.out ?_) ?_); (· first | exact rc1 (.mk A xs.length c (by go_simp) hc (hA7.out _ (by assumption))) | exact rc2 (.mk A xs.length c (by go_simp) hc (hA7.out _ (by assumption))) (.mk B ys.length d (by go_simp) hd (hB7.out _ (by assumption))) | exact rc3 (.mk A5 k c5 (by go_simp) (by omega) (hU7.out _ (by assumption))) (.nil (by go_simp)) (.mk Ad (al.length - k) (c5 - k) (by go_simp) (by omega) (hV7.out _ (by assumption)))); rintro e w1 ⟨rfl, hb1⟩; have hc1 := (bcell hb1).1)
        | (go_at_call_of 16 (Value.slice none 0 0); (with_reducible refine Calls.mono (moreNil hsa) ?_); rintro e w1 ⟨rfl, hb1⟩; have hc1 := (bcell hb1).1)
        | (go_at_call 16; (with_reducible refine Calls.mono (moreQ hsx HS4.out ?_) ?_); (· exact rc1 (.mk B ys.length d (by go_simp) hd (hB7.out _ (by assumption)))); rintro e w1 ⟨rfl, hb1⟩; have hc1 := (bcell hb1).1))
    all_goals
      have hinz := hin.trans (show In w7 w1 by assumption)
      clear hA7 hB7 hU7 hV7 hv1 hv2 hv3 HS2 hk0 hk1 hk2 HT HCU HDR HS3 HS4 hcut hpick
      obtain ⟨wz, rfl⟩ : ∃ wz : World, wz = w1 := ⟨_, rfl⟩
      have hnot := turn_spelt (Crc.sum xs) hsx
      have hsig : IntKind.u32.signed = false := rfl
      go_wp2_with fail
      refine (sum1 (A := A) (c := c) (xs := xs) (by go_simp) hc (Kd.C_below HA.out (hinz.alloc _).out)).mono ?_
      rintro e w8 ⟨rfl, hb8⟩
      have hin8 := (hinz.alloc _).next hb8
      clear hb8
      go_wp2_with fail
      refine (table_any _).mono ?_
      rintro e w9 ⟨rfl, hb9⟩
      have hin9 := hin8.next hb9
      clear hb9 hnot
      have hblk := blk_new w9 (.cells Try.zeroCells35 35)
      go_wp2_with (refine wpList_store_row rfl 35 _ _ rfl w9.heap.size _ rfl rfl 35 _ hblk (by rw [tabCells_size]; exact info35) (by rw [tabCells_size, Try.zeroCells35_size]) (tabCells_one _) ?_)
      have hblk2 := setRow_heap _ _ _ (tabCells 256) _ _ hblk
      have hin10 : In w5 ((w9.alloc (.cells Try.zeroCells35 35)).setRow w9.heap.size (tabCells 256)) := by
        refine Below.trans hin9.out ?_
        have h0 := (Below.refl w9.heap.size w9).alloc (Nat.le_refl _) (.cells Try.zeroCells35 35)
        exact Below.mono (h0.trans ⟨rfl, rfl, rfl, by simp, fun i hi => setRow_other _ _ _ _ (by omega)⟩) hin9.out.size
      clear hblk
      obtain ⟨wv, hwv⟩ : ∃ wv : World, wv = (w9.alloc (.cells Try.zeroCells35 35)).setRow w9.heap.size (tabCells 256) := ⟨_, rfl⟩
      rw [← hwv] at hblk2 hin10 ⊢
      clear hwv
      have hrun : Crc.turn (Crc.sum xs) = Crc.run Crc.ones xs := by rw [Crc.sum_eq, Crc.turn_turn]
      rw [hrun]
      have hfin := Lib.hid (show Crc.turn (Crc.run (Crc.run Crc.ones xs) ys) = Crc.sum al by rw [← HAL.out, Crc.sum_eq, Crc.run_append])
      have hr0 := Crc.run_lt (r := Crc.ones) (by decide) xs
      generalize Crc.run Crc.ones xs = r0 at *
      clear hrun
      go_loop [10, 12] (fun x i => ∃ j : Nat, j ≤ ys.length ∧ i = .int .i64 j ∧ x = .int .u32 (Crc.run r0 (ys.take j) : Nat)) (fun _ i => ys.length - (intOf i).toNat)
      case atStart => exact ⟨0, by omega, rfl, rfl⟩
      case round =>
        obtain ⟨j, hj, rfl, rfl⟩ := hrel
        have hrj := Crc.run_lt hr0 (ys.take j)
        by_cases hjl : j < ys.length
        · obtain ⟨ad', y, rfl, hyj, hcj⟩ := byte_at (Kd.C_below HB.out hin10.out) hjl
          have hylt := y.toNat_lt
          have hstep := Lib.hid (Crc.run_take (r := r0) hyj)
          clear hyj
          generalize Crc.run r0 (ys.take j) = q at *
          obtain ⟨hidx, hil⟩ := index_spelt q y.toNat hylt
          have htab := table_spelt q y.toNat hrj hylt
          have hct : wv.cell? ⟨w9.heap.size, (q % 256) ^^^ y.toNat, none⟩ = some (.int .u32 (Crc.It 8 ((q % 256) ^^^ y.toNat) : Nat)) := by
            rw [blk_cell hblk2, tabCells_at 256 _ hil, if_pos hil]
          generalize (q % 256) ^^^ y.toNat = ix at *
          go_wp2_with fail
          go_round
          case rel => exact ⟨j + 1, by omega, by go_num, by rw [hstep.out]⟩
          case measure => simp [intOf]; omega
        · obtain rfl : j = ys.length := by omega
          rw [List.take_length] at hrj
          rw [List.take_length]
          have hnot := turn_spelt _ hrj
          rw [hfin.out] at hnot
          go_wp2_with fail
          go_ret
          exact ⟨rfl, below_then hb5a hb5a.size hin10.out⟩
end Go.Proofs.Ytkoofoglcheonaa
