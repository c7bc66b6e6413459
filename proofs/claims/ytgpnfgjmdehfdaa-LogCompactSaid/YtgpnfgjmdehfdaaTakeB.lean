/- Taken entries: what is there already is left, from the first other one on they are put anew. -/
import Derived.Test.YtgpnfgjmdehfdaaTakeA
namespace Go.Proofs.Ytgpnfgjmdehfdaa
set_option linter.unusedVariables false
set_option linter.unusedSimpArgs false
open Go.RowKit Go.Proofs.YtgpnfgjmdehfdaaW.PrintWords

theorem IsLog.mk {W : World} {p : Nat} {ok : Nat → Prop} {m : LM} {n c0 c1 c2 c3 c : Nat} {A0 A1 A2 A3 A : Option Addr} (hn : m.es.length = n) (hb : W.heap[p]? = some (.cells #[.int .i64 m.i, .int .i64 m.t, .slice A0 m.g.v.length c0, .slice A1 m.g.o.length c1, .slice A2 m.g.l.length c2, .slice A3 m.g.w.length c3, .bool true, .slice A n c] 37 (0, 0)))
    (hg : Kd.FK cfgK W (fun k => ok k ∧ some k ≠ (Value.slice A n c).ownBlock) m.g [.slice A0 m.g.v.length c0, .slice A1 m.g.o.length c1, .slice A2 m.g.l.length c2, .slice A3 m.g.w.length c3]) (he : Kd.N entK 45 W 0 ok (.slice A n c) m.es) (hp : ¬ ok p) : IsLog W p ok m := by
  subst hn
  exact ⟨A0, c0, A1, c1, A2, c2, A3, c3, A, c, hb, hg, he, hp⟩
/-- From place k on: the first entry whose term the log does not have there. -/
def offAt (m : LM) (index : Int) : Nat → List Ent → Option Nat
  | _, [] => none
  | k, e :: r => if termOf m.i m.t m.es (index + k) = (e.t, true) then offAt m index (k + 1) r else some k
theorem offAt_step {m : LM} {index : Int} {xs : List Ent} {j : Nat} {x : Ent} (hx : xs[j]? = some x) (h : termOf m.i m.t m.es (index + j) = (x.t, true)) : offAt m index j (xs.drop j) = offAt m index (j + 1) (xs.drop (j + 1)) := by
  obtain ⟨hl, hxx⟩ := List.getElem?_eq_some_iff.1 hx
  rw [List.drop_eq_getElem_cons hl, hxx, offAt, if_pos h]
theorem offAt_stop {m : LM} {index : Int} {xs : List Ent} {j : Nat} {x : Ent} (hx : xs[j]? = some x) (h : termOf m.i m.t m.es (index + j) ≠ (x.t, true)) : offAt m index j (xs.drop j) = some j := by
  obtain ⟨hl, hxx⟩ := List.getElem?_eq_some_iff.1 hx
  rw [List.drop_eq_getElem_cons hl, hxx, offAt, if_neg h]
def LM.cut (m : LM) (h : Nat) (ys : List Ent) : LM := ⟨m.i, m.t, m.g, m.es.take h ++ ys⟩
def takeOf (m : LM) (index : Int) (xs : List Ent) : LM × Int × Bool :=
  if index ≤ m.i ∨ m.i + m.es.length + 1 < index then (m, 0, false)
  else match offAt m index 0 xs with
    | none => (m, 0, true)
    | some k => (m.cut (index + k - m.i - 1).toNat (xs.drop k), index + k, true)
theorem termOf_le {m : LM} {k : Int} {t : Int} (h : termOf m.i m.t m.es k = (t, true)) : k ≤ m.i + m.es.length := by
  unfold termOf at h
  split at h
  · omega
  · split at h
    · omega
    · simp at h
theorem F_takes {W : World} {ok : Nat → Prop} {A : Option Addr} {n h : Nat} {xs : List Ent} (hF : Kd.F entK W ok A n xs) (hh : h ≤ n) : Kd.F entK W ok A h (xs.take h) := by
  have hl := Kd.F_len hF
  subst hl
  refine Kd.F_imp hF (fun W' hC => ?_)
  have := Kd.C_take hC hh
  rwa [show (xs.take h).length = h by rw [List.length_take]; omega] at this
set_option maxRecDepth 100000 in
set_option maxHeartbeats 3200000 in
theorem take_yes {p : Nat} {ok okA : Nat → Prop} {m : LM} {A : Option Addr} {c : Nat} {xs : List Ent} {W : World} (index : Int) (hL : IsLog W p ok m) (hAF : Kd.F entK W okA A xs.length xs) (hap : ∀ k, okA k → k ≠ p) (hc : xs.length ≤ c) (hs : entsSmall xs) (hf : Fair m.i (m.es.length + xs.length + 1)) :
    Calls Try.prog 13 #[.pointer (some ⟨p, 0, none⟩), .int .i64 index, .slice A xs.length c] W fun e w' => e = .returned (.tuple #[.int .i64 (takeOf m index xs).2.1, .bool (takeOf m index xs).2.2]) ∧ IsLog w' p (fun k => ok k ∨ W.heap.size ≤ k) (takeOf m index xs).1 ∧ Kept W w' (fun k => k = p ∨ ok k) ∧ Below 0 W w' := by
  have hpl := hL.lt
  have hA := Kd.F_now hAF
  have HAF := Lib.hid hAF
  have HAP := Lib.hid hap
  have HL := Lib.hid hL
  have HA := Lib.hid hA
  have HS := Lib.hid hs
  obtain ⟨f0, f1, f2⟩ := hf
  have hfa : Fair m.i m.es.length := ⟨f0, f1, by omega⟩
  have HF := Lib.hid hfa
  obtain ⟨A0, c0, A1, c1, A2, c2, A3, c3, A4, c4, hb, hg, hE, hp⟩ := hL
  have HP := Lib.hid hp
  have hok : ¬ (ok p ∨ W.heap.size ≤ p) := fun h => h.elim hp (fun h => by omega)
  have HOK := Lib.hid hok
  have hS : Sees W p m.i m.t A4 m.es.length c4 := ⟨blk_cell hb 0, blk_cell hb 1, blk_cell hb 6, blk_cell hb 7⟩
  have HBK := Lib.hid hb
  have HCG := Lib.hid hg
  have HN := Lib.hid hE
  have hle4 := (Kd.N_reads' hE).2.1
  have HEC := Lib.hid (Kd.N_reads' hE).2.2
  have s0 := hS.c0
  have s6 := hS.c6
  have HSEE := Lib.hid hS
  clear hA hs hfa hp hok hE hS hb hg hAF hap
  by_cases h1 : index ≤ m.i
  · have hd : decide (index ≤ m.i) = true := decide_eq_true h1
    have hq := Lib.hid (show takeOf m index xs = (m, 0, false) by unfold takeOf; rw [if_pos (Or.inl h1)])
    go_enter Try.func13, Try.ntmps13
    go_wp2_with fail
    refine (there_yes s6).mono ?_
    rintro e w1 ⟨rfl, rfl⟩
    go_wp2_with fail
    go_ret2
    exact ⟨by rw [hq.out]; rfl, by rw [hq.out]; exact HL.out.mono (fun k hk => .inl hk) HOK.out, Kept.refl _ _, Below.refl 0 _⟩
  have hd : decide (index ≤ m.i) = false := decide_eq_false h1
  by_cases h2 : m.i + m.es.length + 1 < index
  · have hd2 : decide (m.i + (m.es.length : Int) + 1 < index) = true := decide_eq_true h2
    have hq := Lib.hid (show takeOf m index xs = (m, 0, false) by unfold takeOf; rw [if_pos (Or.inr h2)])
    go_enter Try.func13, Try.ntmps13
    go_wp2_with fail
    refine (there_yes s6).mono ?_
    rintro e w1 ⟨rfl, rfl⟩
    go_wp2_with fail
    refine (last_yes HSEE.out HF.out).mono ?_
    rintro e w1 ⟨rfl, ⟨q, rfl⟩⟩
    have hw : IntKind.i64.wrap (m.i + (m.es.length : Int) + 1) = m.i + (m.es.length : Int) + 1 := IntWalk.i64_in _ (by omega)
    go_wp2_with fail
    go_ret2
    exact ⟨by rw [hq.out]; rfl, by rw [hq.out]; exact (HL.out.in_ (In.drewN (In.refl _) _)).mono (fun k hk => .inl hk) HOK.out, Kept.drewN (Kept.refl _ _) _, pw_below_drewN (Below.refl 0 _) _⟩
  have hd2 : decide (m.i + (m.es.length : Int) + 1 < index) = false := decide_eq_false h2
  have hq := Lib.hid (show takeOf m index xs = (match offAt m index 0 xs with
    | none => (m, 0, true)
    | some k => (m.cut (index + k - m.i - 1).toNat (xs.drop k), index + k, true)) by unfold takeOf; rw [if_neg (by omega)])
  go_enter Try.func13, Try.ntmps13
  go_wp2_with fail
  refine (there_yes s6).mono ?_
  rintro e w1 ⟨rfl, rfl⟩
  go_wp2_with fail
  refine (last_yes HSEE.out HF.out).mono ?_
  rintro e w1 ⟨rfl, ⟨q, rfl⟩⟩
  have hw : IntKind.i64.wrap (m.i + (m.es.length : Int) + 1) = m.i + (m.es.length : Int) + 1 := IntWalk.i64_in _ (by omega)
  have hxl := HS.out.1
  go_wp2_with fail
  go_loopw [34] (fun i wr => ∃ j : Nat, j ≤ xs.length ∧ i = .int .i64 j ∧ index + j ≤ m.i + m.es.length + 1 ∧ Hid (offAt m index 0 xs = offAt m index j (xs.drop j)) ∧ In W wr) (fun i _ => xs.length - (intOf i).toNat)
  case atStart => exact ⟨0, by omega, rfl, by omega, Lib.hid (by rw [List.drop_zero]), In.drewN (In.refl _) _⟩
  case round =>
    obtain ⟨j, hj, rfl, hij, hoff, hin⟩ := hrel
    by_cases hl : j < xs.length
    · have hd1 : decide ((j : Int) < (xs.length : Int)) = true := decide_eq_true (by omega)
      obtain ⟨ad, x, cs, rfl, hx, hK, hlen, hcs⟩ := row_get (Kd.C_below HA.out hin.out) hl
      have HJ := Lib.hid hx
      have HCS := Lib.hid hcs
      obtain ⟨D2, d2, D3, d3, D4, d4, D5, d5, D6, d6, rfl, l2, g2, l3, g3, l4, g4, l5, g5, l6, g6⟩ := entK_open hK
      clear hx hK hcs g2 g3 g4 g5 g6 l2 l3 l4 l5 l6
      have HZ := Lib.hid (blk_new wr (.cells #[.int .i64 0, .int .u8 0, .slice none 0 0, .slice none 0 0, .slice none 0 0, .slice none 0 0, .slice none 0 0] 45))
      go_upto_region 6 with (first
        | (refine wpList_load_any rfl 45 (.tmp 37) rfl (ad.add (j * 7)) rfl [.int .i64 x.t, .int .u8 x.k, .slice D2 x.c.length d2, .slice D3 x.g.v.length d3, .slice D4 x.g.o.length d4, .slice D5 x.g.l.length d5, .slice D6 x.g.w.length d6] _ HCS.out Try.underlying45 rfl size45 ?_)
        | (refine wpList_store_row rfl 45 (.tmp 9) (.tmp 38) rfl wr.heap.size #[.int .i64 x.t, .int .u8 x.k, .slice D2 x.c.length d2, .slice D3 x.g.v.length d3, .slice D4 x.g.o.length d4, .slice D5 x.g.l.length d5, .slice D6 x.g.w.length d6] rfl rfl 45 _ HZ.out size45 rfl (by simp [Value.oneCell']) ?_))
      have hblk := setRow_heap (wr.alloc (.cells #[.int .i64 0, .int .u8 0, .slice none 0 0, .slice none 0 0, .slice none 0 0, .slice none 0 0, .slice none 0 0] 45)) wr.heap.size _ #[.int .i64 x.t, .int .u8 x.k, .slice D2 x.c.length d2, .slice D3 x.g.v.length d3, .slice D4 x.g.o.length d4, .slice D5 x.g.l.length d5, .slice D6 x.g.w.length d6] _ _ HZ.out
      have hin1 := In.setRow (In.alloc (In.refl wr) (.cells #[.int .i64 0, .int .u8 0, .slice none 0 0, .slice none 0 0, .slice none 0 0, .slice none 0 0, .slice none 0 0] 45)) (g := wr.heap.size) (Nat.le_refl _) #[.int .i64 x.t, .int .u8 x.k, .slice D2 x.c.length d2, .slice D3 x.g.v.length d3, .slice D4 x.g.o.length d4, .slice D5 x.g.l.length d5, .slice D6 x.g.w.length d6]
      generalize (wr.alloc (.cells #[.int .i64 0, .int .u8 0, .slice none 0 0, .slice none 0 0, .slice none 0 0, .slice none 0 0, .slice none 0 0] 45)).setRow wr.heap.size #[.int .i64 x.t, .int .u8 x.k, .slice D2 x.c.length d2, .slice D3 x.g.v.length d3, .slice D4 x.g.o.length d4, .slice D5 x.g.l.length d5, .slice D6 x.g.w.length d6] = w1 at *
      have hin1w := hin.trans hin1
      have kx : w1.cell? ⟨wr.heap.size, 0, none⟩ = some (.int .i64 x.t) := blk_cell hblk 0
      clear HZ HCS hblk
      have hwj : IntKind.i64.wrap (index + (j : Int)) = index + (j : Int) := IntWalk.i64_in _ (by omega)
      have ht := term_yes (index + (j : Int)) (HSEE.out.in_ hin1w) (Kd.C_below HEC.out hin1w.out) HF.out
      obtain ⟨tv, tb, htt⟩ : ∃ tv tb, termOf m.i m.t m.es (index + (j : Int)) = (tv, tb) := ⟨_, _, rfl⟩
      rw [htt] at ht
      have HTT := Lib.hid htt
      have HT := Lib.hid ht
      clear htt ht
      go_wp2_with fail
      refine HT.out.mono ?_
      rintro e w2 ⟨rfl, ⟨n, rfl⟩⟩
      clear HT
      by_cases hmatch : tb = true ∧ tv = x.t
      · obtain ⟨rfl, rfl⟩ := hmatch
        have hst := Lib.hid (offAt_step HJ.out HTT.out)
        have hle := termOf_le HTT.out
        go_wp2_with fail
        go_roundw
        case rel => exact ⟨j + 1, by omega, by go_num, by omega, Lib.hid (by rw [hoff.out, hst.out]), In.drewN hin1w _⟩
        case measure => simp [intOf]; omega
      · have hst := Lib.hid (offAt_stop HJ.out (by rw [HTT.out]; intro h; injection h with ha hb; exact hmatch ⟨hb, ha⟩))
        have hne : tb = true → (tv == x.t) = false := fun h => by rw [beq_eq_false_iff_ne]; intro h2; exact hmatch ⟨h, h2⟩
        have hqq := Lib.hid (show takeOf m index xs = (m.cut (index + j - m.i - 1).toNat (xs.drop j), index + j, true) by rw [hq.out, hoff.out, hst.out])
        have hin2 := In.drewN hin1w n
        cases tb
        all_goals
          try have hne' := hne rfl
          clear hne hmatch
          go_upto_region 8 with (fail)
          clear kx hin1w
          generalize w1.drewN n = w2 at *
          obtain ⟨h, hh⟩ := Int.eq_ofNat_of_zero_le (show 0 ≤ index + (j : Int) - m.i - 1 by omega)
          have hhl : h ≤ m.es.length := by omega
          have hwa : IntKind.i64.wrap (index + (j : Int) - m.i) = index + (j : Int) - m.i := IntWalk.i64_in _ (by omega)
          have hwb : IntKind.i64.wrap (index + (j : Int) - m.i - 1) = (h : Int) := by rw [IntWalk.i64_in _ (by omega)]; exact hh
          have hcut : ∀ W' : World, (Instr.slice 22 (.slice A4 m.es.length c4) none (some (.int .i64 (h : Int))) none).run Try.prog W' = .ok (.slice A4 h c4) W' := by
            obtain ⟨i45, hi45, _⟩ := info_parts info45
            have := cut_to (P := Try.prog) 22 45 .i64 Try.underlying22 hi45 A4 m.es.length c4 (h : Int) (by omega) (by omega) hle4
            simpa using this
          rw [hh, Int.toNat_natCast] at hqq
          have k0 := In.cells (In.cell (show W.cell? ⟨p, 0, none⟩ = some (.int .i64 m.i) from blk_cell HBK.out 0) hin2)
          have k7 := In.cells (In.cell (show W.cell? ⟨p, 7, none⟩ = some (.slice A4 m.es.length c4) from blk_cell HBK.out 7) hin2)
          have hfz : ∀ w', In w2 w' → w'.frozen? ⟨p, 7, none⟩ = false := fun w' h' => blk_frozen (blk_below (blk_below HBK.out hin2.out) h'.out) 7
          have HFT := Lib.hid (Kd.F_below (F_takes (Kd.F_bound (Kd.N_F HN.out)) hhl) hin2.out)
          have h02 := In.refl w2
          have h021 := In.drew (In.refl w2)
          have hz1 : (0 : Int) ≤ (h : Int) := Int.natCast_nonneg _
          have hz2 : (h : Int) ≤ (m.es.length : Int) := by omega
          have hz3 : (h : Int) ≤ (c4 : Int) := by omega
          clear hh
          go_region_law ((go_simp; go_at_call 53; refine Calls.mono (cloneEnts_any (Kd.F_below HFT.out (show In w2 _ by assumption).out) (fun k hk => Nat.lt_of_lt_of_le hk.2 (hin2.trans (show In w2 _ by assumption)).size) (by omega)) ?_; rintro e wa ⟨v0, rfl, hn0, hown0, hb0⟩; have hi0 := In.trans (show In w2 _ by assumption) hb0; obtain ⟨A5, c5, rfl⟩ := Kd.N_slice hn0))
          all_goals
            have hlt : (m.es.take h).length = h := by rw [List.length_take]; omega
            rw [hlt] at hn0 hown0
            have hinA : In W wa := hin2.trans (show In w2 wa by assumption)
            have hput := blk_put (blk_below HBK.out hinA.out) 7 (.slice A5 h c5) rfl
            have hpn : ∀ k, (ok k ∨ W.heap.size ≤ k) → k ≠ p := fun k hk he => by
              subst he
              exact HOK.out hk
            have hown : ∀ k, (Value.slice A5 h c5).ownBlock = some k → W.heap.size ≤ k := fun k hk => Nat.le_trans (hin2.trans (by assumption)).size (hown0 k hk)
            have hnf := Kd.N_far (p := ⟨p, 7, none⟩) (Kd.N_mono (ok' := fun k => ok k ∨ W.heap.size ≤ k) hn0 (fun k hk => hk.elim (fun h => .inl h.1) (fun h => .inr (Nat.le_trans (hin2.trans (by assumption)).size h)))) hpn (.slice A5 h c5)
            have hgf : Kd.FK cfgK (wa.setCell ⟨p, 7, none⟩ (.slice A5 h c5)) (fun k => (ok k ∨ W.heap.size ≤ k) ∧ some k ≠ (Value.slice A5 h c5).ownBlock) m.g [.slice A0 m.g.v.length c0, .slice A1 m.g.o.length c1, .slice A2 m.g.l.length c2, .slice A3 m.g.w.length c3] := by
              refine Kd.FK_mono (Kd.FK_step (Kd.FK_bound HCG.out) (fun k hk hlt => ?_)) (fun k hk => ⟨.inl hk.1.1, fun he => ?_⟩)
              · rw [Below.heap_setCell _ _ _ k (hpn k (.inl hk.1.1))]
                exact hinA.out.block k hlt
              · have := hown k he.symm
                have := hk.2
                omega
            have hlog : IsLog (wa.setCell ⟨p, 7, none⟩ (.slice A5 h c5)) p (fun k => ok k ∨ W.heap.size ≤ k) ⟨m.i, m.t, m.g, m.es.take h⟩ := IsLog.mk hlt hput hgf hnf HOK.out
            have hk1 : Kept W (wa.setCell ⟨p, 7, none⟩ (.slice A5 h c5)) (fun k => k = p ∨ ok k) := Kept.setCell (p := ⟨p, 7, none⟩) (hinA.kept _) (.inl (.inl rfl)) _
            have hAf := Kd.F_far (p := ⟨p, 7, none⟩) (Kd.F_below HAF.out hinA.out) HAP.out (.slice A5 h c5)
            have HAf := Lib.hid hAf
            have hz0 : Below 0 W (wa.setCell ⟨p, 7, none⟩ (.slice A5 h c5)) := (Below.mono hinA.out (Nat.zero_le _)).setCell (p := ⟨p, 7, none⟩) (Nat.zero_le _) _
            have HZ0 := Lib.hid hz0
            clear hz0
            have HK1 := Lib.hid hk1
            have HLG := Lib.hid hlog
            have hsz1 : W.heap.size ≤ (wa.setCell ⟨p, 7, none⟩ (.slice A5 h c5)).heap.size := hk1.1
            have HSZ := Lib.hid hsz1
            clear hput hgf hnf hlog hk1 hn0 hown0 hown hAf hsz1 k0 k7 hfz HFT h02 h021 hi0 hb0 hcut hz1 hz2 hz3 hwa hwb
            generalize wa.setCell ⟨p, 7, none⟩ (.slice A5 h c5) = wf at *
            obtain ⟨i45, hi45, hi45s⟩ : ∃ i, Try.prog.info? 45 = some i ∧ i.size = 7 := by
              obtain ⟨i45, hi45, _, hz, _⟩ := info_parts info45
              exact ⟨i45, hi45, hz⟩
            have hcd := cut_from (P := Try.prog) 22 45 .i64 Try.underlying22 hi45 7 hi45s (some ad) xs.length c (j : Int) (by omega) (by omega)
            rw [Int.toNat_natCast] at hcd
            have hCD := Kd.C_drop (m := j) (Kd.F_now HAf.out) (by omega) hc
            rw [entK_sz] at hCD
            generalize (if c = j then (some ad : Option Addr) else (some ad : Option Addr).map (·.add (j * 7))) = AD at *
            have hput2 := put_yes (c := c - j) HLG.out hCD ⟨by rw [List.length_drop]; omega, fun k e he => HS.out.2 (j + k) e (by rw [List.getElem?_drop] at he; exact he)⟩ ⟨f0, f1, by rw [List.length_drop, hlt]; omega⟩
            rw [List.length_drop] at hput2
            have HPP := Lib.hid hput2
            clear hput2 hCD
            go_wp2_with fail
            refine HPP.out.mono ?_
            rintro e wz ⟨rfl, hlz, hkz, hbz⟩
            have HLZ := Lib.hid hlz
            have HKZ := Lib.hid hkz
            clear hlz hkz HPP
            go_wp2_with fail
            go_ret2
            refine ⟨by rw [hqq.out]; rfl, ?_, HK1.out.then_ HKZ.out (fun k hk => hk.elim (fun h => .inl (.inl h)) (fun h => h.elim (fun h => .inl (.inr h)) (fun h => .inr h))), HZ0.out.trans hbz⟩
            rw [hqq.out]
            exact HLZ.out.mono (fun k hk => hk.elim (fun h => h) (fun h => .inr (Nat.le_trans HSZ.out h))) HOK.out
    · obtain rfl : j = xs.length := by omega
      have hd1 : decide ((xs.length : Int) < (xs.length : Int)) = false := decide_eq_false (by omega)
      have hqq := Lib.hid (show takeOf m index xs = (m, 0, true) by rw [hq.out, hoff.out, List.drop_length]; rfl)
      go_wp2_with fail
      go_ret2
      exact ⟨by rw [hqq.out]; rfl, by rw [hqq.out]; exact (HL.out.in_ hin).mono (fun k hk => .inl hk) HOK.out, hin.kept _, Below.mono hin.out (Nat.zero_le _)⟩
end Go.Proofs.Ytgpnfgjmdehfdaa
