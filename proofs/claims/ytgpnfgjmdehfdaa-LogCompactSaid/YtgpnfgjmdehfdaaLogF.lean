/- A log's entries up to an index let go; a base from elsewhere. -/
import Derived.Test.YtgpnfgjmdehfdaaLogE
namespace Go.Proofs.Ytgpnfgjmdehfdaa
set_option linter.unusedVariables false
set_option linter.unusedSimpArgs false
open Go.RowKit Go.Proofs.YtgpnfgjmdehfdaaW.PrintWords

/-- What letting go comes to. -/
def compactOf (m : LM) (k : Int) : LM × Bool :=
  if m.i ≤ k ∧ k ≤ m.last then (⟨k, (termOf m.i m.t m.es k).1, (forceN m (k - m.i).toNat).1, m.es.drop (k - m.i).toNat⟩, true) else (m, false)
theorem bas_ofF {W : World} {ok : Nat → Prop} {g : Cfg} {v0 v1 v2 v3 : Value} (i t : Int) (h : Kd.FK cfgK W ok g [v0, v1, v2, v3]) : Kd.FK basK W ok ⟨i, t, g⟩ [.int .i64 i, .int .i64 t, v0, v1, v2, v3] := fun W' hW => by
  obtain ⟨_, _, _, _, _, _, _, _, hh, l0, g0, l1, g1, l2, g2, l3, g3⟩ := cfgK_open (h W' hW)
  injection hh with h3 hh
  injection hh with h4 hh
  injection hh with h5 hh
  injection hh with h6 hh
  subst h3 h4 h5 h6
  exact basK_mk (x := ⟨i, t, g⟩) l0 g0 l1 g1 l2 g2 l3 g3
theorem fresh_F {α : Type} {d : Kd α} {W w : World} {x : α} {cs : List Value} (h : d.M w W.heap.size (fun _ => True) x cs) : Kd.FK d w (fun k => W.heap.size ≤ k) x cs := Kd.FK_of_M (d.M_mono (fun k hk => hk.2.1) (d.M_bound h))
set_option maxRecDepth 100000 in
set_option maxHeartbeats 1600000 in
theorem compact_any {p : Nat} {ok : Nat → Prop} {m : LM} {W : World} (k : Int) (hL : IsLog W p ok m) (hf : Fair m.i m.es.length) (hg : m.g.len ≤ 1000000000) (hs : entsSmall m.es) :
    Calls Try.prog 20 #[.pointer (some ⟨p, 0, none⟩), .int .i64 k] W fun e w' => e = .returned (.bool (compactOf m k).2) ∧ IsLog w' p (fun k => ok k ∨ W.heap.size ≤ k) (compactOf m k).1 ∧ Kept W w' (fun k => k = p ∨ ok k) ∧ Below 0 W w' := by
  have hpl := hL.lt
  have hp : ¬ (ok p ∨ W.heap.size ≤ p) := by
    obtain ⟨_, _, _, _, _, _, _, _, _, _, _, _, _, h⟩ := hL
    exact fun hh => hh.elim h (fun h => by omega)
  obtain ⟨A, c, hS, hC⟩ := hL.sees
  have HL := Lib.hid hL
  have HF := Lib.hid hf
  have HP := Lib.hid hp
  have HTM := Lib.hid (term_yes k hS hC hf)
  obtain ⟨f0, f1, f2⟩ := hf
  clear hp
  by_cases hk : m.i ≤ k ∧ k ≤ m.last
  · obtain ⟨j, hj⟩ := Int.eq_ofNat_of_zero_le (show 0 ≤ k - m.i by omega)
    obtain rfl : k = m.i + (j : Int) := by omega
    have hjl : j ≤ m.es.length := by have := hk.2; unfold LM.last at this; omega
    obtain ⟨tv, ht⟩ : ∃ tv, termOf m.i m.t m.es (m.i + (j : Int)) = (tv, true) := by
      unfold termOf
      by_cases h0 : j = 0
      · subst h0
        rw [if_neg (by omega), if_pos (by omega)]
        exact ⟨_, rfl⟩
      · rw [if_pos (by omega)]
        exact ⟨_, rfl⟩
    have hco : compactOf m (m.i + (j : Int)) = (⟨m.i + j, tv, (forceN m j).1, m.es.drop j⟩, true) := by
      unfold compactOf
      rw [if_pos hk, ht, show m.i + (j : Int) - m.i = (j : Int) by omega, Int.toNat_natCast]
    have HCO := Lib.hid hco
    have htm := HTM.out
    rw [ht] at htm
    have HT2 := Lib.hid htm
    obtain ⟨cv, fi, hfn⟩ : ∃ cv fi, forceN m j = (cv, fi) := ⟨_, _, rfl⟩
    have HFN := Lib.hid hfn
    have s0 := hS.c0
    have HSE := Lib.hid hS
    clear hk hco htm hfn HTM ht hj hL hS hC
    go_enter Try.func20, Try.ntmps20
    go_wp2_with fail
    (with_reducible refine HT2.out.mono ?_)
    rintro e w1 ⟨rfl, ⟨n, rfl⟩⟩
    have hin1 := In.drewN (In.refl W) n
    have hfc := force_any j hjl (HL.out.in_ hin1) HF.out hg hs
    rw [HFN.out] at hfc
    have HFC := Lib.hid hfc
    generalize W.drewN n = w1 at *
    clear hfc
    go_wp2_with fail
    (with_reducible refine HFC.out.mono ?_)
    rintro e w3 ⟨ds, rfl, hm3, hin3⟩
    have hin13 := hin1.trans hin3
    have hF3 := fresh_F (cfgK.M_lower hin1.size hm3)
    obtain ⟨v0, v1, v2, v3, rfl, m0, m1, m2, m3⟩ := cfgK_openM hm3
    obtain ⟨B0, b0, rfl⟩ := Kd.R_slice m0
    obtain ⟨B1, b1, rfl⟩ := Kd.R_slice m1
    obtain ⟨B2, b2, rfl⟩ := Kd.R_slice m2
    obtain ⟨B3, b3, rfl⟩ := Kd.R_slice m3
    have HF3 := Lib.hid hF3
    have HZ3 := Lib.hid (blk_new w3 (.cells #[.slice none 0 0, .slice none 0 0, .slice none 0 0, .slice none 0 0] 25))
    clear hm3 m0 m1 m2 m3 hF3
    go_upto_region 5 with (refine wpList_store_row rfl 25 (.tmp 7) (.tmp 21) rfl w3.heap.size #[.slice B0 cv.v.length b0, .slice B1 cv.o.length b1, .slice B2 cv.l.length b2, .slice B3 cv.w.length b3] rfl rfl 25 _ HZ3.out size25 rfl (by simp [Value.oneCell']) ?_)
    have hin4 := In.setRow (In.alloc (In.refl w3) (.cells #[.slice none 0 0, .slice none 0 0, .slice none 0 0, .slice none 0 0] 25)) (g := w3.heap.size) (Nat.le_refl _) #[.slice B0 cv.v.length b0, .slice B1 cv.o.length b1, .slice B2 cv.l.length b2, .slice B3 cv.w.length b3]
    have hbk := setRow_heap _ _ _ #[.slice B0 cv.v.length b0, .slice B1 cv.o.length b1, .slice B2 cv.l.length b2, .slice B3 cv.w.length b3] _ _ HZ3.out
    generalize (w3.alloc (.cells #[.slice none 0 0, .slice none 0 0, .slice none 0 0, .slice none 0 0] 25)).setRow w3.heap.size #[.slice B0 cv.v.length b0, .slice B1 cv.o.length b1, .slice B2 cv.l.length b2, .slice B3 cv.w.length b3] = w4 at *
    have hin14 := hin13.trans hin4
    have q0 := In.cells (show w4.cell? ⟨w3.heap.size, 0, none⟩ = some (.slice B0 cv.v.length b0) from blk_cell hbk 0)
    have q1 := In.cells (show w4.cell? ⟨w3.heap.size, 1, none⟩ = some (.slice B1 cv.o.length b1) from blk_cell hbk 1)
    have q2 := In.cells (show w4.cell? ⟨w3.heap.size, 2, none⟩ = some (.slice B2 cv.l.length b2) from blk_cell hbk 2)
    have q3 := In.cells (show w4.cell? ⟨w3.heap.size, 3, none⟩ = some (.slice B3 cv.w.length b3) from blk_cell hbk 3)
    have p0 := In.cells (In.cell s0 hin14)
    have HFB := Lib.hid (Kd.FK_below (bas_ofF (m.i + (j : Int)) tv HF3.out) hin4.out)
    have HL4 := Lib.hid (HL.out.in_ hin14)
    clear hbk s0 HZ3
    have hwj : IntKind.i64.wrap (m.i + (j : Int) - m.i) = (j : Int) := by rw [IntWalk.i64_in _ (by omega)]; omega
    have h00 := In.refl w4
    have h01 := In.drew (In.refl w4)
    go_region_law ((first
      | (go_simp; go_at_call 58; refine Calls.mono (stand_any (b := ⟨m.i + (j : Int), tv, cv⟩) j (HL4.out.in_ (by assumption)) (Kd.FK_below HFB.out (show In w4 _ by assumption).out) (fun h => by omega) hjl f2) ?_; rintro e wz ⟨rfl, hlz, hkz, hbz⟩)))
    all_goals
      have hkp : Kept W wz (fun k => k = p ∨ ok k) := ((hin14.trans (by assumption)).kept _).then_ hkz (fun k hk => .inl (.inl hk))
      have hbz0 : Below 0 W wz := (Below.mono (hin14.trans (by assumption)).out (Nat.zero_le _)).trans hbz
      have hlg : IsLog wz p (fun k => ok k ∨ W.heap.size ≤ k) ⟨m.i + (j : Int), tv, cv, m.es.drop j⟩ := hlz.mono (fun k hk => hk.elim .inl (fun h => h.elim .inr (fun h => .inr (Nat.le_trans (hin14.trans (by assumption)).size h)))) HP.out
      have HKP := Lib.hid hkp
      have HB0 := Lib.hid hbz0
      have HLG := Lib.hid hlg
      clear hkp hbz0 hlg hlz hkz hbz
      go_wp2_with fail
      go_ret
      rw [HCO.out, HFN.out]
      exact ⟨rfl, HLG.out, HKP.out, HB0.out⟩
  · have hco : compactOf m k = (m, false) := by unfold compactOf; rw [if_neg hk]
    have ht : termOf m.i m.t m.es k = (0, false) := by
      unfold termOf
      unfold LM.last at hk
      rw [if_neg (by omega), if_neg (by omega)]
    have htm := HTM.out
    rw [ht] at htm
    have HT2 := Lib.hid htm
    have HCO := Lib.hid hco
    clear hk hco htm HTM ht hL hS hC
    go_enter Try.func20, Try.ntmps20
    go_wp2_with fail
    (with_reducible refine HT2.out.mono ?_)
    rintro e w1 ⟨rfl, ⟨n, rfl⟩⟩
    go_wp2_with fail
    go_ret
    rw [HCO.out]
    exact ⟨rfl, (HL.out.in_ (In.drewN (In.refl _) _)).mono (fun k hk => .inl hk) HP.out, (In.drewN (In.refl _) _).kept _, Below.mono (In.drewN (In.refl W) _).out (Nat.zero_le _)⟩
/-- What a base from elsewhere comes to. -/
def installOf (m : LM) (b : Bas) : LM × Bool :=
  if b.i ≤ m.i then (m, false) else (⟨b.i, b.t, b.g, if termOf m.i m.t m.es b.i = (b.t, true) then m.es.drop (b.i - m.i).toNat else []⟩, true)
end Go.Proofs.Ytgpnfgjmdehfdaa
