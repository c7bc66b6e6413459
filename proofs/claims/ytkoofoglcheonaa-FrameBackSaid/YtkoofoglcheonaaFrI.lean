/- The walk of FrameBehind. -/
import Derived.Test.YtkoofoglcheonaaFrH
import Derived.Test.YtkoofoglcheonaaWGuard
namespace Go.Proofs.Ytkoofoglcheonaa
set_option linter.unusedVariables false
set_option linter.unusedSimpArgs false
open Go.RowKit Go.Proofs.YtkoofoglcheonaaW.PrintWords

theorem fr_drop {w : World} {A : Option Addr} {n m : Nat} {l : List Fr} (h : frK.C w A n l) (hm : m ≤ n) : frK.C w A m (l.take m) := by
  obtain rfl := h.1
  have := Kd.C_take h hm
  rwa [show (l.take m).length = m by rw [List.length_take]; omega] at this
theorem empty_fr {W : World} : Kd.N frK 44 (W.alloc (.cells #[] 44)) 0 (fun k => W.heap.size ≤ k) (.slice (some ⟨W.heap.size, 0, none⟩) 0 0) [] := by
  refine Kd.N_mono (ok := fun k => k = W.heap.size) (Kd.R_N ⟨fun k hk => by simp [Value.ownBlock] at hk; exact hk.symm, [], ?_, ?_⟩) (fun k hk => by omega)
  · exact World.ownsRow_made W #[] 0 (Nat.zero_le _) (Nat.zero_le _) rfl
  · exact ⟨rfl, fun j p hj => by simp at hj⟩
theorem equal_n {A B : Option Addr} {n c d : Nat} {xs : List Fr} {w : World} (hA : frK.C w A n xs) (hB : frK.C w B n xs) :
    Calls Try.prog 35 #[.slice A n c, .slice B n d] w fun e w' => e = .returned (.bool true) ∧ Drawn0 w w' := by
  obtain rfl := hA.1
  exact equal_any hA hB
set_option maxRecDepth 100000 in
set_option maxHeartbeats 3200000 in
theorem frameBehind_any (W : World) (A : Option Addr) (c : Nat) (l : List Fr) (hA : frK.C W A l.length l) (hn : l.length ≤ 200000000000000) (hrl : ∀ f ∈ l, f.d.length ≤ 200000000000000) (hlc : l.length ≤ c)
    (B : Option Addr) (d : Nat) (b : List UInt8) (hB : byte.C W B b.length b) (hbl : b.length ≤ 200000000000000) (hbd : b.length ≤ d) :
    Calls Try.prog 10 #[.slice A l.length c, .slice B b.length d] W fun e w' => e = .returned (.bool true) ∧ Below W.heap.size W w' := by
  have HA := Lib.hid hA
  have HB := Lib.hid hB
  clear hA hB
  go_enter Try.func10, Try.ntmps10
  go_wp2_with fail
  refine (awake3_any _).mono ?_
  rintro e w1 ⟨rfl, h1⟩
  have HG := Lib.hid (great3_any (c := c) (Kd.C_below HA.out h1.out) hn hrl)
  go_wp2_with fail
  refine HG.out.mono ?_
  rintro e w1' ⟨g, rfl, rfl, hg⟩
  cases g with
  | true =>
    clear hg
    go_wp2_with fail
    go_ret
    exact ⟨rfl, h1.out⟩
  | false =>
    have HM := Lib.hid (hg rfl)
    clear hg HG
    by_cases h8 : 8000 < b.length
    · have hd8 : decide (8000 < (b.length : Int)) = true := decide_eq_true (by omega)
      go_wp2_with fail
      go_ret
      exact ⟨rfl, h1.out⟩
    have hd8 : decide (8000 < (b.length : Int)) = false := decide_eq_false (by omega)
    go_wp2_with fail
    refine (get_any (Kd.C_below HB.out h1.out) hbd (by omega)).mono ?_
    rintro e w2 ⟨v2, rfl, hR2, hi2⟩
    have hgs := Frm.get_size b
    obtain ⟨x, hx⟩ : ∃ x, x = Frm.get b := ⟨_, rfl⟩
    obtain ⟨N, hN⟩ : ∃ N, N = Frm.size x := ⟨_, rfl⟩
    rw [← hx, ← hN] at hgs
    rw [← hx] at hR2
    rw [← hx, ← hN]
    have HX := Lib.hid hx
    have HN := Lib.hid hN
    obtain ⟨A2, c2, rfl⟩ := Kd.R_slice hR2
    have hC2 := (Kd.R_reads' hR2).2.2
    have hle2 := (Kd.R_reads' hR2).2.1
    have HR2 := Lib.hid hR2
    have HC2 := Lib.hid hC2
    have hgood := Lib.hid (show Frm.allGood x by rw [hx]; exact Frm.get_good b)
    clear hx hN hR2 hC2
    have h12 := In.trans h1 hi2
    go_wp2_with fail
    refine (put_any HC2.out (by rw [← HN.out]; omega)).mono ?_
    rintro e w3 ⟨hi3, ⟨_, v3, rfl, hM3⟩ | ⟨hbad, _⟩⟩
    rotate_left
    · exact absurd (Frm.putE_good.2 hgood.out) hbad
    have h13 := In.trans h12 hi3
    have htake := Frm.get_take b
    rw [← HX.out, ← HN.out] at htake
    rw [← htake] at hM3
    have hlt : (b.take N).length = N := by rw [List.length_take]; omega
    obtain ⟨A3, c3, rfl, hle3, hC3⟩ := hM3.reads
    rw [hlt] at hC3 hle3 ⊢
    obtain ⟨hcut, hF⟩ := bcut_to B (c := d) (n := b.length) (m := N) (N : Int) rfl hgs hbd
    have HSM := Lib.hid (same_n (c := c3) (d := d) hC3 (Kd.F_now (hF w3 (fun _ => True) b (Kd.F_mono (Kd.C_F Kd.heap_scalar (Kd.C_below HB.out h13.out)) (fun _ _ => trivial)))))
    have hd1 : decide ((N : Int) < 0) = false := decide_eq_false (by omega)
    have hd2 : decide ((b.length : Int) < (N : Int)) = false := decide_eq_false (by omega)
    have HT := Lib.hid htake
    clear htake hM3 hlt hF hC3
    go_wp2_with fail
    refine HSM.out.mono ?_
    rintro e w4 ⟨rfl, hd4⟩
    have h14 := In.drawn h13 hd4
    have hi24 := In.drawn hi3 hd4
    clear hd4 HSM
    go_wp2_with fail
    refine (put_any (l := l) (Kd.C_below HA.out h14.out) (by have := Frm.size_much l; have := HM.out; omega)).mono ?_
    rintro e w5 ⟨hi5, ⟨hz5, v5, rfl, hM5⟩ | ⟨hbad, rfl⟩⟩
    rotate_left
    · have hne : ((Frm.putE l : Int) != 0) = true := by rw [bne_iff_ne]; omega
      go_wp2_with fail
      go_ret
      exact ⟨rfl, (In.trans h14 hi5).out⟩
    have h15 := In.trans h14 hi5
    have hlg := Lib.hid (Frm.putE_good.1 hz5)
    have HM5 := Lib.hid hM5
    have hfl := Frm.flat_length l
    have hsl := Frm.size_much l
    have hml := HM.out
    have HRB := Lib.hid (byte_reads (Kd.C_below HB.out h15.out))
    obtain ⟨s, hs⟩ : ∃ s, s = Frm.flat l := ⟨_, rfl⟩
    rw [← hs] at hfl HM5
    have HS := Lib.hid hs
    have HFL := Lib.hid hfl
    have hsle : s.length ≤ 72000 := by omega
    clear hs hM5 hz5 hfl
    have hbase := hi5.size
    obtain ⟨A5, c5, rfl, hle5, _⟩ := HM5.out.reads
    go_wp2_with (at_builtin; refine print_append_row_of encB (0 : UInt8) (w0 := w4) w4.heap.size rfl (.tmp 60) (.tmp 61) 34 5 (.int .u8 0) 1 rfl Try.underlying34 info5 rfl (by decide) (fun _ => rfl) _ s b B b.length d rfl rfl HM5.out.own HRB.out hi5.out hbase (by omega) ?_)
    intro v6 w6 ho6 hb6 hg6 hat6
    have h46 : In w4 w6 := hb6
    have h16 := In.trans h14 h46
    have ho6' := Mine.of_own2 (W := w4) ho6 (by rw [List.length_append])
    obtain ⟨A6, c6, rfl, hle6, hC6⟩ := ho6'.reads
    rw [List.length_append] at hle6 hC6 ⊢
    have HC6 := Lib.hid hC6
    clear ho6 ho6' hg6 hat6 hC6 hb6
    have hgb := Lib.hid (show Frm.get (s ++ b) = l ++ x by rw [HS.out, Frm.get_behind hlg.out, HX.out])
    have hsb := Lib.hid (show (s ++ b).length ≤ 1000000000 by rw [List.length_append]; omega)
    go_wp2_with fail
    (with_reducible refine (get_any HC6.out hle6 hsb.out).mono ?_)
    rintro e w7 ⟨v7, rfl, hR7, hi7⟩
    rw [hgb.out] at hR7 ⊢
    obtain ⟨A7, c7, rfl⟩ := Kd.R_slice hR7
    have HC7 := Lib.hid (Kd.R_reads' hR7).2.2
    have h17 := In.trans h16 hi7
    have hi27 := In.trans hi24 (In.trans h46 hi7)
    have hlen : Frm.size (l ++ x) = s.length + N := by rw [Frm.size_append, HFL.out, HN.out]
    rw [hlen]
    have heq : (((s.length + N : Nat) : Int) == (s.length : Int) + (N : Int)) = true := by rw [beq_iff_eq]; omega
    have hxl : x.length ≤ 8000 := by have := Frm.len_size x; have := HN.out; omega
    have hll : l.length ≤ 8000 := by have := hml; unfold Frm.much at this; omega
    clear hR7 hlen
    go_upto_region 13 with (fail)
    have hin8 := In.alloc (In.refl w7) (.cells #[] 44)
    have hE := Lib.hid (empty_fr (W := w7))
    have hFl := Lib.hid (Kd.F_below (Kd.F_bound (Kd.C_F (Kd.heap_iso _ (Kd.heap_pair (Kd.heap_int _) (Kd.heap_slice 5 Kd.heap_scalar))) (Kd.C_below HA.out h17.out))) hin8.out)
    go_wp2_with (at_builtin; refine gate_guard (by rfl) ?_; refine Kd.N_append_rows frK (w0 := w7.alloc (.cells #[] 44)) 0 rfl (.tmp 74) (.tmp 75) 41 44 (.agg #[.int .i64 0, .slice none 0 0]) 32 rfl Try.underlying41 info44 rfl (by decide) (by decide) (.slice (some ⟨w7.heap.size, 0, none⟩) 0 0) [] l A l.length c (fun _ => True) _ rfl rfl (Kd.N_mono hE.out (fun _ _ => trivial)) hFl.out (fun k hk => ⟨trivial, fun he => by have := hk.2; simp [Value.ownBlock] at he; omega⟩) (fun _ _ => trivial) (Below.refl 0 _) (Nat.zero_le _) (by simp; omega) ?_)
    intro v8 w8 hN8 hb8 hg8 hat8
    have hi78 : In w7 w8 := hin8.out.grown hg8 hin8.size (fun k hk => by simp [Value.ownBlock] at hk; omega)
    have hbig : ∀ k, v8.ownBlock = some k → w7.heap.size ≤ k := fun k hk => by
      rcases hat8 with h | ⟨b', h, h'⟩
      · rw [h] at hk
        simp [Value.ownBlock] at hk
        omega
      · rw [h] at hk
        injection hk with hk
        omega
    have hFx := Lib.hid (Kd.F_below (Kd.F_bound (Kd.C_F (Kd.heap_iso _ (Kd.heap_pair (Kd.heap_int _) (Kd.heap_slice 5 Kd.heap_scalar))) (Kd.C_below HC2.out hi27.out))) hi78.out)
    have hN8' := Lib.hid hN8
    have HBIG := Lib.hid hbig
    clear hN8 hg8 hat8 hE hFl hbig
    go_wp2_with (at_builtin; refine gate_guard (by rfl) ?_; refine Kd.N_append_rows frK (w0 := w8) 0 rfl (.tmp 76) (.tmp 77) 41 44 (.agg #[.int .i64 0, .slice none 0 0]) 32 rfl Try.underlying41 info44 rfl (by decide) (by decide) v8 l x A2 x.length c2 (fun _ => True) _ rfl rfl hN8'.out hFx.out (fun k hk => ⟨trivial, fun he => by have := HBIG.out k he.symm; have := hk.2; omega⟩) (fun _ _ => trivial) (Below.refl 0 _) (Nat.zero_le _) (by omega) ?_)
    intro v9 w9 hN9 hb9 hg9 hat9
    have hi89 : In w7 w9 := hi78.out.grown hg9 hi78.size (fun k hk => HBIG.out k hk)
    obtain ⟨A9, c9, rfl⟩ := Kd.N_slice hN9
    have hC9 := (Kd.N_reads' hN9).2.2
    have HEQ := Lib.hid (equal_n (c := c7) (d := c9) (Kd.C_below HC7.out hi89.out) hC9)
    rw [List.length_append] at HEQ ⊢
    clear hN9 hg9 hat9 hN8' hFx hC9
    go_wp2_with fail
    refine HEQ.out.mono ?_
    rintro e w10 ⟨rfl, hd10⟩
    go_wp2_with fail
    go_ret
    exact ⟨rfl, (In.drawn (In.trans h17 hi89) hd10).out⟩
end Go.Proofs.Ytkoofoglcheonaa
