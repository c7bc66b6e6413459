/- The walk of FrameTells. -/
import Derived.Test.YtkoofoglcheonaaTelA
namespace Go.Proofs.Ytkoofoglcheonaa
set_option linter.unusedVariables false
set_option linter.unusedSimpArgs false
open Go.RowKit Go.Proofs.YtkoofoglcheonaaW.PrintWords

theorem C_datas {w : World} {A : Option Addr} {l : List Fr} (h : frK.C w A l.length l) : ∃ ds : List Value, ds.length = l.length ∧ ∀ (j : Nat) (f : Fr), l[j]? = some f → ∃ ad A1 c1, A = some ad ∧ ds[j]? = some (.slice A1 f.d.length c1) ∧
    w.cell? (ad.add (j * 2)) = some (.int .i64 f.k) ∧ w.cell? ⟨(ad.add (j * 2)).block, (ad.add (j * 2)).off + 1, none⟩ = some (.slice A1 f.d.length c1) ∧ f.d.length ≤ c1 ∧ byte.C w A1 f.d.length f.d := by
  refine ⟨(List.range l.length).map (fun j => match A with | some ad => (w.cell? ⟨(ad.add (j * 2)).block, (ad.add (j * 2)).off + 1, none⟩).getD (.slice none 0 0) | none => .slice none 0 0), by simp, fun j f hx => ?_⟩
  have hj := (List.getElem?_eq_some_iff.1 hx).1
  obtain ⟨ad, x, A1, c1, rfl, hx2, h0, h1, hle, hC⟩ := frK_at h hj
  obtain rfl : f = x := by rw [hx] at hx2; exact Option.some.inj hx2
  refine ⟨ad, A1, c1, rfl, ?_, h0, h1, hle, hC⟩
  rw [List.getElem?_map, List.getElem?_range hj]
  simp only [Option.map_some, h1, Option.getD_some]
theorem row_form {w : World} {base n c : Nat} {A : Option Addr} {vs : List Value} (h : w.ownsRow base 34 1 (.slice A n c) n vs) {k : Nat} {v : Value} (hv : vs[k]? = some v) (hn : k < n) : ∃ ad, A = some ad ∧ w.cell? (ad.add k) = some v := by
  obtain ⟨g, cap, hve, _, _⟩ := h.form (by omega)
  injection hve with hA _ _
  subst hA
  exact ⟨_, rfl, h.cells (g := g) rfl k v hv⟩
theorem lf_E : ∀ q, q ∈ (44 : Nat) :: lfK.E → q ≠ 34 := by decide
theorem own_through {w X w5 : World} {base e n : Nat} {v : Value} {xs : List Value} {row : Option Nat} (h : w.ownsRow base e 1 v n xs) (hb : Below w.heap.size w X) (hg : X.grownBy w5 row) (hne : ∀ q, v.ownBlock = some q → some q ≠ row) : w5.ownsRow base e 1 v n xs :=
  own_move h fun q hq => (hg.block q (Nat.lt_of_lt_of_le (own_lt h q hq) hb.size) (hne q hq)).trans (hb.block q (own_lt h q hq))
set_option maxRecDepth 100000 in
set_option maxHeartbeats 6400000 in
theorem frameTells_any (W : World) (A : Option Addr) (c : Nat) (l : List Fr) (hA : frK.C W A l.length l) (hn : l.length ≤ 200000000000000) (hrl : ∀ f ∈ l, f.d.length ≤ 200000000000000) (hlc : l.length ≤ c)
    (B : Option Addr) (d : Nat) (b : List UInt8) (hB : byte.C W B b.length b) (hbl : b.length ≤ 200000000000000) (hbd : b.length ≤ d) :
    Calls Try.prog 7 #[.slice A l.length c, .slice B b.length d] W fun e w' => e = .returned (.bool true) ∧ Below W.heap.size W w' := by
  obtain ⟨ds, hdl, hds⟩ := C_datas hA
  have HDL := Lib.hid hdl
  have HDS := Lib.hid hds
  have HA := Lib.hid hA
  have HB := Lib.hid hB
  have HG := Lib.hid (great3_any (c := c) hA hn hrl)
  clear hA hB hdl hds
  go_enter Try.func7, Try.ntmps7
  go_wp2_with fail
  refine HG.out.mono ?_
  rintro e w1' ⟨g, rfl, rfl, hg⟩
  cases g with
  | true =>
    clear hg
    go_wp2_with fail
    refine (awake3_any _).mono ?_
    rintro e w1 ⟨rfl, h1⟩
    go_wp2_with fail
    go_ret
    exact ⟨rfl, h1.out⟩
  | false =>
    have HM := Lib.hid (hg rfl)
    clear hg HG
    by_cases h8 : 8000 < b.length
    · have hd8 : decide (8000 < (b.length : Int)) = true := decide_eq_true (by omega)
      go_wp2_with fail
      refine (awake3_any _).mono ?_
      rintro e w1 ⟨rfl, h1⟩
      go_wp2_with fail
      go_ret
      exact ⟨rfl, h1.out⟩
    have hd8 : decide (8000 < (b.length : Int)) = false := decide_eq_false (by omega)
    have hll : l.length ≤ 8000 := by have := HM.out; unfold Frm.much at this; omega
    have hfd : Hid (∀ f ∈ l, f.d.length ≤ 72000) := Lib.hid (fun f hf => by
      have h1 := Frm.size_much l
      have h2 := HM.out
      obtain ⟨j, hj⟩ := List.mem_iff_getElem?.1 hf
      have h3 := Frm.size_snoc hj
      have h4 := Frm.size_le l (j + 1)
      omega)
    clear hn hrl
    go_wp2_with fail
    go_loopw [5, 6, 7] (fun vd v i wr => ∃ k : Nat, k ≤ l.length ∧ i = .int .i64 k ∧ Hid (wr.ownsRow W.heap.size 34 1 vd (ds.take k).length (ds.take k)) ∧ Hid (lfK.R 44 wr W.heap.size (fun _ => True) v (l.take k)) ∧ In W wr) (fun _ _ i _ => l.length - (intOf i).toNat)
    case atStart => exact ⟨0, by omega, rfl, Lib.hid (own_nil _ _ _ _), Lib.hid (Kd.R_nil _ _ _ _ _), In.refl _⟩
    case round =>
      obtain ⟨k, hk, rfl, HD, HI, hin⟩ := hrel
      by_cases hlt : k < l.length
      · obtain ⟨f, hx⟩ : ∃ f, l[k]? = some f := ⟨l[k], List.getElem?_eq_getElem hlt⟩
        obtain ⟨ad, A1, c1, rfl, hd, h0, h1, hle1, hC1⟩ := HDS.out k f hx
        have hf7 := hfd.out f (List.mem_of_getElem? hx)
        have hdk : (ds.take k).length = k := by rw [List.length_take]; have := HDL.out; omega
        have hlk : (l.take k).length = k := by rw [List.length_take]; omega
        have hsn : ds.take k ++ [Value.slice A1 f.d.length c1] = ds.take (k + 1) := by rw [List.take_add_one, hd]; rfl
        have hsl : l.take k ++ [f] = l.take (k + 1) := by rw [List.take_add_one, hx]; rfl
        obtain ⟨q, hq⟩ : ∃ q, q = l.take k := ⟨_, rfl⟩
        obtain ⟨p, hp⟩ : ∃ p, p = ds.take k := ⟨_, rfl⟩
        rw [← hq] at HI hlk hsl
        rw [← hp] at HD hdk hsn
        have HSN := Lib.hid hsn
        have HSL := Lib.hid hsl
        have HLK := Lib.hid hlk
        have HDK := Lib.hid hdk
        have HC1 := Lib.hid hC1
        have hc1 := In.cell h1 hin
        have K0 := Lib.hid h0
        have K1 := Lib.hid h1
        clear hsn hsl hlk hdk hq hp hC1 hx hd h0 h1
        go_wp2_with (at_builtin; refine print_append_cells (w0 := W) W.heap.size rfl (.tmp 36) (.tmp 42) 22 34 (.slice none 0 0) 1 24 rfl Try.underlying22 info34c rfl (by decide) (by decide) u5 p.length p [.slice A1 f.d.length c1] rfl ?r1 rfl ?r2 HD.out hin.out hin.size (by have := HDK.out; omega) ?_)
        case r1 => first | rfl | (go_simp; done)
        case r2 => exact fun u hu => by rw [List.mem_singleton] at hu; subst hu; rfl
        intro v2 w2 ho hb hg hat
        have HO := Lib.hid (show w2.ownsRow W.heap.size 34 1 v2 (ds.take (k + 1)).length (ds.take (k + 1)) by rw [← HSN.out, List.length_append]; exact ho)
        have HI2 := Lib.hid (Kd.R_over' HI.out (own_typed HD.out) lf_E hg)
        have hi2 : In W w2 := hb
        clear ho hb hg hat hc1 hin HI HD
        have k0 : ∀ w', In W w' → w'.cell? (ad.add (k * 2)) = some (.int .i64 f.k) := fun w' h => In.cell K0.out h
        have k1 : ∀ w', In W w' → w'.cell? ⟨(ad.add (k * 2)).block, (ad.add (k * 2)).off + 1, none⟩ = some (.slice A1 f.d.length c1) := fun w' h => In.cell K1.out h
        have j0 : (0 : Int) ≤ (k : Int) := by omega
        have j1 : (k : Int) < (l.length : Int) := by omega
        have HL24 := Lib.hid (fun (w' : World) (h : In W w') => lentBytes_any A1 c1 f.d w' (Kd.C_below HC1.out h.out) (by omega))
        have hwW := hi2.size
        have HNE := Lib.hid (show ∀ q, v2.ownBlock = some q → some q ≠ u6.ownBlock from fun q hq he => by
          obtain ⟨c8, h8⟩ := own_typed HO.out q hq
          obtain ⟨c9, h9⟩ := Kd.R_typed HI2.out q he.symm
          rw [h8] at h9
          simp at h9)
        go_upto_region 9 with (fail)
        go_region_held3 (fun w' => In W w') (first | exact In.drew (by assumption) | exact In.next (by assumption) (by assumption) | exact In.alloc (by assumption) _ | assumption | exact In.alloc (In.drew (by assumption)) _ | exact hb5)
          (first
            | ((have tok := hM; clear tok; refine Kd.R_append_rows_step lfK (Rr := lfK.M _ W.heap.size (fun k => w2.heap.size ≤ k)) (w0 := W) W.heap.size (by rfl) (.tmp 44) (.tmp 57) 41 44 (.agg #[.int .i64 0, .slice none 0 0]) 32 (by rfl) Try.underlying41 info44 (by rfl) (by decide) (by decide) u6 q [f] (some ⟨_, 0, none⟩) 1 1 (fun _ => True) (fun k => w2.heap.size ≤ k) (by rfl) (by rfl) (by first | exact Kd.R_below HI2.out (by repeat (first | (with_reducible first | exact Below.refl _ _ | assumption | apply below_alloc | apply pw_below_drewN | apply below_drew1)))) (by first | exact lf_one hM | exact lf_one_drew hM) (fun _ _ h => h) (fun k hk => ⟨trivial, fun he => by have := Kd.R_lt HI2.out k he.symm; omega⟩) (fun _ _ => trivial) (by first | exact In.out (by assumption) | exact (In.alloc (by assumption) _).out) (by first | exact In.size (by assumption) | exact (In.alloc (by assumption) _).size) (by rw [HLK.out]; omega) ?_); intro v5 w5 hR5 hb5 hg5 hat5)
            | (go_at_call 24; (with_reducible refine Calls.mono (HL24.out _ (by assumption)) ?_); rintro e wa ⟨_, rfl, ⟨gu, cu, rfl, hou⟩, hba⟩; have hia : Below w2.heap.size w2 wa := (In.next (W := w2) (by first | exact In.refl _ | exact In.drew (In.refl _) | exact In.drew (In.drew (In.refl _))) hba).out; have hM : lfK.M wa W.heap.size (fun k => w2.heap.size ≤ k) f [.int .i64 f.k, .slice (some ⟨gu, 0, none⟩) f.d.length cu] := lf_mk ⟨gu, cu, rfl, own_weaken hou (by first | exact In.size (by assumption) | (simp; omega))⟩ (fun k hk => by have h9 := own_base hou k hk; simp at h9; omega)))
        all_goals
          rw [HSL.out] at hR5
          have HR5 := Lib.hid hR5
          have HD5 := Lib.hid (own_through HO.out (by repeat (first | (with_reducible first | exact Below.refl _ _ | assumption | apply below_alloc | apply pw_below_drewN | apply below_drew1))) hg5 HNE.out)
          clear hR5 hg5 hat5
          go_wp2_with fail
          go_roundw
          case rel => exact ⟨k + 1, by omega, by go_num, HD5, HR5, hb5⟩
          case measure => simp [intOf]; omega
      · obtain rfl : k = l.length := by omega
        have hD := HD.out
        rw [List.take_of_length_le (by rw [HDL.out]; exact Nat.le_refl _)] at hD
        have hI := HI.out
        rw [List.take_length] at hI
        have HI2 := Lib.hid (Kd.R_mono (Kd.R_bound hI) (fun k hk => hk.2.2.1) : lfK.R 44 wr W.heap.size (fun k => k < wr.heap.size) u6 l)
        have HD2 := Lib.hid hD
        obtain ⟨A6, c6, rfl⟩ := Kd.R_slice hI
        obtain ⟨A5, c5, rfl⟩ := own_slice hD
        have HC6 := Lib.hid (lf_C (Kd.R_reads' hI).2.2)
        have HSZ := Lib.hid (show Frm.size l ≤ 72000 by have := Frm.size_much l; have := HM.out; omega)
        have HIN := Lib.hid hin
        obtain ⟨tt, htt⟩ : ∃ tt, tt = Frm.told l := ⟨_, rfl⟩
        obtain ⟨E, hE⟩ : ∃ E, E = Frm.putE l := ⟨_, rfl⟩
        have HTT := Lib.hid (show tt.length ≤ 72000 by rw [htt]; exact Nat.le_trans (Frm.told_len l) HSZ.out)
        have HTE := Lib.hid htt
        have HEE := Lib.hid hE
        clear hD hI HI HD hin hlt hk htt hE
        go_wp2_with fail
        (with_reducible refine (put_any HC6.out (by have := HSZ.out; omega)).mono ?_)
        rintro e w2 hp2
        obtain ⟨s, rfl, hms, hi2⟩ := hp2.uni
        clear hp2
        rw [← HTE.out] at hms
        rw [← HEE.out]
        obtain ⟨As, cs, rfl⟩ := Kd.R_slice hms
        have HMS := Lib.hid hms
        have HI2a := Lib.hid hi2
        clear hms hi2
        go_wp2_with fail
        (with_reducible refine (turned_any (Kd.C_below HA.out (In.trans HIN.out HI2a.out).out) (by omega)).mono ?_)
        rintro e w3 ⟨B3, d3, rfl, hC3, hi3⟩
        have HC3 := Lib.hid hC3
        have HI3 := Lib.hid hi3
        clear hC3 hi3
        go_wp2_with fail
        (with_reducible refine (rput_any HC3.out (by have := HSZ.out; omega)).mono ?_)
        rintro e w4 hp4
        obtain ⟨t, rfl, hmt, hi4⟩ := hp4.uni
        clear hp4
        rw [← HTE.out] at hmt
        rw [← HEE.out]
        obtain ⟨At, ct, rfl⟩ := Kd.R_slice hmt
        have HMT := Lib.hid hmt
        have HI4 := Lib.hid (In.trans (In.trans HI2a.out HI3.out) hi4)
        have HI24 := Lib.hid (In.trans HI3.out hi4)
        clear hmt hi4 HC3 HI3
        go_wp2_with fail
        (with_reducible refine (put_any (Kd.C_below HC6.out HI4.out.out) (by have := HSZ.out; omega)).mono ?_)
        rintro e w5 hp5
        obtain ⟨u, rfl, hmu, hi5⟩ := hp5.uni
        clear hp5
        rw [← HTE.out] at hmu
        rw [← HEE.out]
        obtain ⟨Au, cu, rfl⟩ := Kd.R_slice hmu
        have HMU := Lib.hid hmu
        have HI5 := Lib.hid hi5
        clear hmu hi5
        have HWr5 := Lib.hid (In.trans HI4.out HI5.out)
        have HW5 := Lib.hid (In.trans HIN.out HWr5.out)
        go_wp2_with fail
        (with_reducible refine (lentBytes_any B d b _ (Kd.C_below HB.out HW5.out.out) (by omega)).mono ?_)
        rintro e w6 ⟨_, rfl, hL, hi6⟩
        obtain ⟨A7, c7, hve, hle7, hC7⟩ := hL.reads
        have HL6 := Lib.hid hL
        obtain ⟨gb, cb, rfl, _⟩ := hL
        injection hve with hA7 _ hc7
        subst hA7 hc7
        have HC7 := Lib.hid hC7
        have HI6 := Lib.hid (show In w5 w6 from hi6)
        have HW6 := Lib.hid (In.trans HW5.out HI6.out)
        clear hC7 hi6
        go_wp2_with fail
        (with_reducible refine (getS_any HC7.out hle7 (by omega)).mono ?_)
        rintro e w7 ⟨x, rfl, hS7, hi7⟩
        have hgs := Frm.get_size b
        obtain ⟨xs, hxs⟩ : ∃ xs, xs = Frm.get b := ⟨_, rfl⟩
        obtain ⟨N, hN⟩ : ∃ N, N = Frm.size xs := ⟨_, rfl⟩
        rw [← hxs, ← hN] at hgs
        rw [← hxs] at hS7
        rw [← hxs, ← hN]
        obtain ⟨Ax, cx, rfl⟩ := Kd.S_slice hS7
        have HS7 := Lib.hid hS7
        have HI7 := Lib.hid hi7
        clear hS7 hi7
        go_wp2_with fail
        (with_reducible refine (rget_any (Kd.C_below HB.out (In.trans HW6.out HI7.out).out) hbd (by omega)).mono ?_)
        rintro e w8 ⟨Ay, cy, rfl, hC8, hi8⟩
        rw [← hxs] at hC8
        rw [← hxs, ← hN]
        have HC8 := Lib.hid hC8
        have HI8 := Lib.hid hi8
        clear hC8 hi8
        have HXS := Lib.hid (show 9 * xs.length ≤ 8000 by have := Frm.len_size xs; omega)
        have HN := Lib.hid hN
        have HXX := Lib.hid hxs
        clear hN hxs
        have e1 : (E != E) = false := by simp
        have e2 : ((N : Int) != (N : Int)) = false := by simp
        have HW8 := Lib.hid (In.trans (In.trans HW6.out HI7.out) HI8.out)
        have H48 := Lib.hid (In.trans (In.trans (In.trans HI5.out HI6.out) HI7.out) HI8.out)
        have HSA := Lib.hid (fun (w' : World) (h : In w8 w') => same_n (c := cs) (d := ct) (Kd.C_below (Kd.R_reads' (Mine.below HMS.out (In.trans HI24.out H48.out))).2.2 h.out) (Kd.C_below (Kd.R_reads' (Mine.below HMT.out H48.out)).2.2 h.out))
        have HS3 := Lib.hid (fun (w' : World) (h : In w8 w') => same3_n (c := cx) (d := cy) (Kd.C_below (Kd.S_reads' (Kd.S_below HS7.out HI8.out.out)).2.2 h.out) (Kd.C_below HC8.out h.out))
        have HL8 := Lib.hid (HL6.out.below (In.trans HI7.out HI8.out).out)
        have HKB := Lib.hid (fun (w' : World) (h : In w8 w') => keptBytes_any _ _ B d b w' (HL8.out.below h.out) (Kd.C_below HB.out (In.trans HW8.out h).out) (by omega))
        go_wp2_with fail
        (with_reducible refine (HSA.out w8 (In.refl _)).mono ?_)
        rintro e w9 ⟨rfl, hd9⟩
        have hi9 := In.drawn (In.refl w8) hd9
        clear hd9
        go_wp2_with fail
        (with_reducible refine (HS3.out _ hi9).mono ?_)
        rintro e w10 ⟨rfl, hd10⟩
        have hi10 := In.drawn hi9 hd10
        clear hd10 hi9
        go_wp2_with fail
        (with_reducible refine (HKB.out _ hi10).mono ?_)
        rintro e w11 ⟨rfl, ⟨n11, hd11⟩⟩
        have hi11 : In w8 w11 := by rw [hd11]; exact In.drewN hi10 _
        have H8 := Lib.hid hi11
        clear hd11 hi10 hi11 HSA HS3 HKB HMT HC8
        obtain ⟨s, hs⟩ : ∃ s, s = Value.slice As tt.length cs := ⟨_, rfl⟩
        obtain ⟨u, hu⟩ : ∃ u, u = Value.slice Au tt.length cu := ⟨_, rfl⟩
        have h7 := Lib.hid (In.trans HI8.out H8.out)
        have h5 := Lib.hid (In.trans (In.trans HI6.out HI7.out) h7.out)
        have h2 := Lib.hid (In.trans (In.trans HI24.out HI5.out) h5.out)
        have hr := Lib.hid (In.trans HI2a.out h2.out)
        have hW := Lib.hid (In.trans HIN.out hr.out)
        have hS11 := Kd.S_below HS7.out h7.out.out
        obtain ⟨dx, hdl, hdx, hap⟩ := S_datas hS11
        have HDXL := Lib.hid hdl
        have HDX := Lib.hid hdx
        have hso := Mine.own HMS.out
        have huo := Mine.own HMU.out
        rw [← hs] at hso
        rw [← hu] at huo
        have z1 := HI24.out.size
        have z2 := HI5.out.size
        have z3 := HI6.out.size
        have z4 := (In.trans HI7.out h7.out).size
        have z5 := HI2a.out.size
        obtain ⟨vals, hvals⟩ : ∃ vals, vals = s :: u :: dx := ⟨_, rfl⟩
        have HVL := Lib.hid (show vals.length = xs.length + 2 by rw [hvals]; simp [hdl])
        have HRW := Lib.hid (show ∀ q, InRows vals q → (wr.heap.size ≤ q ∧ (q < w5.heap.size ∨ w6.heap.size ≤ q)) ∧ q < w11.heap.size from fun q hq => by
          rw [hvals] at hq
          refine inRows_all (S := fun q => (wr.heap.size ≤ q ∧ (q < w5.heap.size ∨ w6.heap.size ≤ q)) ∧ q < w11.heap.size) hq (fun q hq => ?_) (fun q hq => ?_) (fun j v hv q hq => ?_)
          · have := own_lt hso q hq
            have := own_base hso q hq
            exact ⟨⟨by omega, .inl (by omega)⟩, by omega⟩
          · have := own_lt huo q hq
            have := own_base huo q hq
            exact ⟨⟨by omega, .inl (by omega)⟩, by omega⟩
          · have hj : j < xs.length := by rw [← hdl]; exact (List.getElem?_eq_some_iff.1 hv).1
            obtain ⟨_, v', _, h1, _, h3, _⟩ := hdx j _ (List.getElem?_eq_getElem hj)
            rw [hv] at h1
            cases h1
            have := own_lt h3 q hq
            have := own_base h3 q hq
            exact ⟨⟨by omega, .inr (by omega)⟩, by omega⟩)
        have HFL := Lib.hid (show ∀ (w' : World) (A' : Option Addr) (c' : Nat), In w11 w' → w'.ownsRow w11.heap.size 34 1 (.slice A' vals.length c') vals.length vals → Flat w' A' vals (tt :: tt :: xs.map (·.d)) from fun w' A' c' hin' ho => by
          have hrw := HRW.out
          rw [hvals] at ho hrw ⊢
          refine flat_all (b1 := wr.heap.size) (b2 := w4.heap.size) (b3 := w6.heap.size) (b4 := w11.heap.size) (pw_own_below hso (In.trans h2.out hin').out) (fun q hq => ?_) (pw_own_below huo (In.trans h5.out hin').out) (fun q hq => ?_) (by omega) hdl (fun j x hx => ?_) hap (by have := HTT.out; omega) (by have := HXS.out; omega) ho (fun k v hv q hq => (hrw q ⟨k, v, hv, hq⟩).2)
          · have := own_lt hso q hq
            omega
          · have := own_lt huo q hq
            omega
          · obtain ⟨_, v', _, h1, _, h3, _⟩ := hdx j x hx
            refine ⟨v', h1, pw_own_below h3 hin'.out, ?_⟩
            have hmem : x ∈ Frm.get b := by rw [← HXX.out]; exact List.mem_of_getElem? hx
            have := (Frm.get_good b x hmem).2.2
            omega)
        have HV2 := Lib.hid (show vals.take 2 = [s, u] by rw [hvals]; rfl)
        have HV3 := Lib.hid (show ∀ j : Nat, vals[j + 2]? = dx[j]? from fun j => by rw [hvals]; rfl)
        have hlit := World.ownsRow_lit (base := w11.heap.size) (e := 34) (size := 1) w11 #[s, u] 2 (Nat.le_refl _) (by simp [maxLen]) rfl
        have HO0 := Lib.hid (show (w11.alloc (.cells #[.slice As tt.length cs, .slice Au tt.length cu] 34)).ownsRow w11.heap.size 34 1 (.slice (some ⟨w11.heap.size, 0, none⟩) 2 2) (vals.take (0 + 2)).length (vals.take (0 + 2)) by rw [← hs, ← hu, HV2.out]; exact hlit)
        clear hlit hvals hs hu hso huo hdx hdl hap hS11 z1 z2 z3 z4 z5
        go_wp2_with fail
        go_loopw [19, 20] (fun v i wq => ∃ k : Nat, k ≤ xs.length ∧ i = .int .i64 k ∧ Hid (wq.ownsRow w11.heap.size 34 1 v (vals.take (k + 2)).length (vals.take (k + 2))) ∧ In w11 wq) (fun _ i _ => xs.length - (intOf i).toNat)
        case atStart => exact ⟨0, by omega, rfl, HO0, In.alloc (In.refl _) _⟩
        case round =>
          clear HO0
          obtain ⟨k, hk, rfl, HO, hin⟩ := hrel
          by_cases hlt : k < xs.length
          · obtain ⟨x, hx⟩ : ∃ x, xs[k]? = some x := ⟨xs[k], List.getElem?_eq_getElem hlt⟩
            obtain ⟨ad, v', rfl, hd, hcell, hown, _⟩ := HDX.out k x hx
            obtain ⟨A9, c9, rfl⟩ := own_slice hown
            have hc9 := In.cell hcell hin
            have hvk : vals.take (k + 2) ++ [Value.slice A9 x.d.length c9] = vals.take (k + 1 + 2) := by
              rw [show k + 1 + 2 = (k + 2) + 1 from by omega, List.take_add_one (i := k + 2), HV3.out, hd]
              rfl
            obtain ⟨p, hp⟩ : ∃ p, p = vals.take (k + 2) := ⟨_, rfl⟩
            have hpl : p.length = k + 2 := by rw [hp, List.length_take]; have := HVL.out; omega
            rw [← hp] at HO hvk
            have HVK := Lib.hid hvk
            have HPL := Lib.hid hpl
            have hxle := HXS.out
            clear hx hd hcell hown hvk hp hpl
            go_wp2_with (at_builtin; refine print_append_cells (w0 := w11) w11.heap.size rfl (.tmp 122) (.tmp 128) 22 34 (.slice none 0 0) 1 24 rfl Try.underlying22 info34c rfl (by decide) (by decide) u19 p.length p [.slice A9 x.d.length c9] rfl ?r1 rfl ?r2 HO.out hin.out hin.size (by have := HPL.out; omega) ?_)
            case r1 => first | rfl | (go_simp; done)
            case r2 => exact fun u hu => by rw [List.mem_singleton] at hu; subst hu; rfl
            intro v2 w2' ho hb hg hat
            have HO2 := Lib.hid (show w2'.ownsRow w11.heap.size 34 1 v2 (vals.take (k + 1 + 2)).length (vals.take (k + 1 + 2)) by rw [← HVK.out, List.length_append]; exact ho)
            clear ho hg hat
            go_wp2_with fail
            go_roundw
            case rel => exact ⟨k + 1, by omega, by go_num, HO2, hb⟩
            case measure => simp [intOf]; omega
          · obtain rfl : k = xs.length := by omega
            have ho := HO.out
            rw [List.take_of_length_le (by rw [HVL.out]; exact Nat.le_refl _)] at ho
            obtain ⟨Av, cv, rfl⟩ := own_slice ho
            have HFB := Lib.hid (HFL.out _ _ _ hin ho)
            have HQ := Lib.hid hin
            clear ho HO HFL hin hlt hk HDX
            go_wp2_with fail
            (with_reducible refine (apartBytes_any HFB.out).mono ?_)
            rintro e wz ⟨rfl, hkz, hbz⟩
            have HWZ := Lib.hid (In.of_kept (In.trans hW.out HQ.out) hkz hbz (fun q hq => by have := (HRW.out q hq).1.1; have := HIN.out.size; omega))
            have HLZ := Lib.hid (Lent.move (HL8.out.below (In.trans H8.out HQ.out).out) hkz (fun q hq hS => by
              obtain ⟨⟨_, h4 | h4⟩, _⟩ := HRW.out q hS
              · have := (HL6.out.lt q hq).1
                omega
              · have := (HL6.out.lt q hq).2
                omega))
            have HDZ := Lib.hid (own_kept (pw_own_below HD2.out (In.trans hr.out HQ.out).out) hkz (fun q hq hS => by
              have := (HRW.out q hS).1.1
              have := own_lt HD2.out q hq
              omega))
            have HIZ := Lib.hid (Kd.R_kept (Kd.R_below HI2.out (In.trans hr.out HQ.out).out) hkz (fun k hk hS => by
              have := (HRW.out k hS).1.1
              omega))
            clear hkz hbz
            have HKZ := Lib.hid (keptBytes_any _ _ B d b wz HLZ.out (Kd.C_below HB.out HWZ.out.out) (by omega))
            go_wp2_with fail
            (with_reducible refine HKZ.out.mono ?_)
            rintro e wy ⟨rfl, ⟨ny, hny⟩⟩
            clear HKZ
            go_wp2_with fail
            go_loopw [21] (fun i wv => ∃ k : Nat, k ≤ l.length ∧ i = .int .i64 k ∧ Drawn0 wz wv) (fun i _ => l.length - (intOf i).toNat)
            case atStart => exact ⟨0, by omega, rfl, ⟨ny, rfl⟩⟩
            case round =>
              clear hny
              obtain ⟨k, hk, rfl, ⟨m, rfl⟩⟩ := hrel
              by_cases hlt : k < l.length
              · obtain ⟨f, hx⟩ : ∃ f, l[k]? = some f := ⟨l[k], List.getElem?_eq_getElem hlt⟩
                obtain ⟨_, A1, c1, _, hd, _, _, hle1, hC1⟩ := HDS.out k f hx
                obtain ⟨ad5, rfl, hcd⟩ := row_form HDZ.out hd (by have := HDL.out; omega)
                obtain ⟨ad6, u6, rfl, hcu, hlu⟩ := lf_at HIZ.out hx
                have hf7 := hfd.out f (List.mem_of_getElem? hx)
                have hdk : k < ds.length := by have := HDL.out; omega
                have hcall : ∀ q : Nat, Calls Try.prog 32 #[u6, .slice A1 f.d.length c1] (wz.drewN (m + q)) fun e w'' => e = .returned (.bool true) ∧ ∃ q', w'' = wz.drewN (m + q') :=
                  fun q => quiet_sum (keptBytes_any _ u6 A1 c1 f.d _ (hlu.below (pw_below_drewN (Below.refl _ _) _)) (Kd.C_below hC1 (In.drewN HWZ.out _).out) (by omega))
                have HCL := Lib.hid hcall
                clear hcall hx hd hC1
                obtain ⟨gu, cu', rfl, hou⟩ := hlu
                clear hou
                go_wp2_with fail
                go_quiet ((go_at_call 32; exact HCL.out _))
                go_wp2_with fail
                go_roundw
                case rel => exact ⟨k + 1, by omega, by go_num, ⟨_, rfl⟩⟩
                case measure => simp [intOf]; omega
              · obtain rfl : k = l.length := by omega
                go_wp2_with fail
                refine (awake3_any _).mono ?_
                rintro e we ⟨rfl, hie⟩
                go_wp2_with fail
                go_ret
                exact ⟨rfl, (In.trans (In.drewN HWZ.out _) hie).out⟩
end Go.Proofs.Ytkoofoglcheonaa
