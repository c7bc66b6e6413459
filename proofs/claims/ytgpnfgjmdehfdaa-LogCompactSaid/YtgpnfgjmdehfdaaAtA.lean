/- The entry at an index of a log. -/
import Derived.Test.YtgpnfgjmdehfdaaTakeB
namespace Go.Proofs.Ytgpnfgjmdehfdaa
set_option linter.unusedVariables false
set_option linter.unusedSimpArgs false
open Go.RowKit Go.Proofs.YtgpnfgjmdehfdaaW.PrintWords

theorem one_rowC {α : Type} {d : Kd α} {W : World} {x : α} {cs : List Value} {e : TypeId} (h : d.K W x cs) : d.C (W.alloc (.cells cs.toArray e)) (some ⟨W.heap.size, 0, none⟩) 1 [x] := by
  have hb := blk_new W (.cells cs.toArray e)
  refine ⟨rfl, by omega, fun _ => ⟨_, rfl, fun j p hp => ?_⟩⟩
  match j, hp with
  | 0, hp =>
    cases hp
    refine ⟨cs, d.K_len h, d.K_below (In.alloc (In.refl _) _).out h, fun i u hu => ?_⟩
    rw [show (0 * d.sz + i) = i from by omega, add_plain, blk_cell hb i, ← hu, List.getElem?_toArray]

/-- An element of a row with its footprint. -/
theorem rowF_get {α : Type} {d : Kd α} {w : World} {ok : Nat → Prop} {A : Option Addr} {n : Nat} {xs : List α} (h : Kd.F d w ok A n xs) {j : Nat} (hj : j < n) :
    ∃ ad x cs, A = some ad ∧ xs[j]? = some x ∧ Kd.FK d w ok x cs ∧ cs.length = d.sz ∧ CellsAt w (ad.add (j * d.sz)) cs := by
  obtain ⟨h1, h2, h3⟩ := Kd.F_rows h
  obtain ⟨ad, rfl, hc⟩ := h3 (by omega)
  have hl : j < xs.length := by omega
  obtain ⟨c, hlen, hr, hcell⟩ := hc j _ (List.getElem?_eq_getElem hl)
  exact ⟨ad, xs[j], c, rfl, List.getElem?_eq_getElem hl, hr, hlen, fun i v hv => by rw [add_add]; exact hcell i v hv⟩
set_option maxRecDepth 100000 in
set_option maxHeartbeats 1600000 in
theorem at_yes {p : Nat} {ok : Nat → Prop} {m : LM} {w : World} (k : Int) (hL : IsLog w p ok m) (hf : Fair m.i m.es.length) (hs : entsSmall m.es) {x : Ent} {j : Nat} (hk : k = m.i + 1 + j) (hx : m.es[j]? = some x) :
    Calls Try.prog 15 #[.pointer (some ⟨p, 0, none⟩), .int .i64 k] w fun e w' => ∃ ds, e = .returned (.tuple #[.agg ds.toArray, .bool true]) ∧ entK.K w' x ds ∧ In w w' := by
  obtain ⟨A, c, hS, hC⟩ := hL.sees
  have hjl : j < m.es.length := (List.getElem?_eq_some_iff.1 hx).1
  obtain ⟨f0, f1, f2⟩ := hf
  have hq := Lib.hid (show placeOf m.i m.es.length k = ((j : Int), true) by unfold placeOf; rw [if_neg (by omega)]; congr 1; omega)
  obtain ⟨ad, y, cs, rfl, hy, hK, hlen, hcs⟩ := row_get hC hjl
  obtain rfl : x = y := by rw [hx] at hy; exact Option.some.inj hy
  have hK0 := hK
  obtain ⟨A2, c2, A3, c3, A4, c4, A5, c5, A6, c6, rfl, _⟩ := entK_open hK0
  clear hK0
  have hin := In.alloc (In.refl w) (.cells #[.int .i64 0, .int .u8 0, .slice none 0 0, .slice none 0 0, .slice none 0 0, .slice none 0 0, .slice none 0 0] 45)
  have hblk := blk_new w (.cells #[.int .i64 0, .int .u8 0, .slice none 0 0, .slice none 0 0, .slice none 0 0, .slice none 0 0, .slice none 0 0] 45)
  have hgl := blk_lt hblk
  have hpl := place_yes k (hS.in_ hin) ⟨f0, f1, f2⟩
  rw [hq.out] at hpl
  have c7 := In.cells (In.cell hS.c7 hin)
  have HCS := Lib.hid (hcs.below hin)
  have HK := Lib.hid (entK.K_below hin.out hK)
  have HPL := Lib.hid hpl
  have HB := Lib.hid hblk
  have hlen' : (Try.prog.info? 45).map (·.size) = some 7 := size45
  have HSM := Lib.hid (hs.2 j x hx)
  have HKQ := Lib.hid hk
  clear hL hS hC hs hx hy hK hcs hpl hblk hq hk
  go_enter Try.func15, Try.ntmps15
  go_upto_region 1 with (fail)
  generalize w.alloc (.cells #[.int .i64 0, .int .u8 0, .slice none 0 0, .slice none 0 0, .slice none 0 0, .slice none 0 0, .slice none 0 0] 45) = w1 at *
  have hr := In.refl w1
  go_wp2_with fail
  (with_reducible refine HPL.out.mono ?_)
  rintro e w2 ⟨rfl, ⟨n, rfl⟩⟩
  have hr2 := In.drewN (In.refl w1) n
  have hj0 : (0 : Int) ≤ (j : Int) := Int.natCast_nonneg _
  have hj1 : (j : Int) < (m.es.length : Int) := by omega
  go_upto_region 4 with (fail)
  have c7' := c7 _ hr2
  clear c7
  have HC2 := Lib.hid (HCS.out.below hr2)
  clear HCS
  have HK3 := Lib.hid (entK.K_below hr2.out HK.out)
  have HB3 := Lib.hid (blk_below HB.out hr2.out)
  generalize w1.drewN n = w3 at *
  go_wp2_with (refine wpList_load_any rfl 45 (.tmp 22) rfl (ad.add (j * 7)) rfl _ _ HC2.out Try.underlying45 rfl hlen' ?_)
  have HOW := Lib.hid (own_any (c := 1) (one_rowC (e := 45) HK3.out) ⟨by simp, fun i e he => by
    match i, he with
    | 0, he =>
      cases he
      exact HSM.out
    | i + 1, he => simp at he⟩)
  have HOW2 := Lib.hid (show Calls Try.prog 55 #[.slice (some ⟨w3.heap.size, 0, none⟩) 1 1] (w3.alloc (.cells #[.int .i64 x.t, .int .u8 x.k, .slice A2 x.c.length c2, .slice A3 x.g.v.length c3, .slice A4 x.g.o.length c4, .slice A5 x.g.l.length c5, .slice A6 x.g.w.length c6] 45)) _ from HOW.out)
  (with_reducible refine HOW2.out.mono ?_)
  rintro e w4 ⟨v4, rfl, hR4, hi4⟩
  obtain ⟨E4, e4, rfl⟩ := Kd.R_slice hR4
  have hC4 := Kd.R_F (Kd.R_mono (ok' := fun k => w.heap.size < k) (Kd.R_bound hR4) (fun k hk => by
    have h1 := hk.2.1
    have h2 := hr2.size
    simp at h1
    omega))
  obtain ⟨ad4, y, ds, rfl, hy, hFK4, hlen4, hds⟩ := rowF_get hC4 (j := 0) (by simp)
  obtain rfl : x = y := by simpa using hy
  have hK5 := Kd.FK_now hFK4
  have hK4 := hFK4
  obtain ⟨B2, d2, B3, d3, B4, d4, B5, d5, B6, d6, rfl, _⟩ := entK_open hK5
  have HK4 := Lib.hid hK4
  have HDS := Lib.hid hds
  have hi14 := In.trans (In.alloc (In.refl w3) (.cells #[.int .i64 x.t, .int .u8 x.k, .slice A2 x.c.length c2, .slice A3 x.g.v.length c3, .slice A4 x.g.o.length c4, .slice A5 x.g.l.length c5, .slice A6 x.g.w.length c6] 45)) hi4
  have HZ := Lib.hid (blk_below HB3.out hi14.out)
  clear hK4 hK5 hds hC4 hy hR4
  go_wp2_with (first
    | (refine wpList_load_any rfl 45 (.tmp 26) rfl (ad4.add (0 * 7)) rfl _ _ HDS.out Try.underlying45 rfl hlen' ?_)
    | (refine wpList_store_row rfl 45 (.tmp 4) (.tmp 27) rfl w.heap.size #[.int .i64 x.t, .int .u8 x.k, .slice B2 x.c.length d2, .slice B3 x.g.v.length d3, .slice B4 x.g.o.length d4, .slice B5 x.g.l.length d5, .slice B6 x.g.w.length d6] rfl rfl 45 _ HZ.out size45 rfl (by simp [Value.oneCell']) ?_))
  refine bodyPost_ret (results_ct rfl _ _ w.heap.size 45 #[.int .i64 x.t, .int .u8 x.k, .slice B2 x.c.length d2, .slice B3 x.g.v.length d3, .slice B4 x.g.o.length d4, .slice B5 x.g.l.length d5, .slice B6 x.g.w.length d6] (0, 0) _ rfl (setRow_heap _ _ _ _ _ _ HZ.out) Try.underlying45 rfl size45) rfl ?_
  have hall := In.trans (In.trans hin hr2) hi14
  refine ⟨_, rfl, ?_, In.setRow hall (Nat.le_refl _) _⟩
  exact Kd.FK_now (Kd.FK_step HK4.out (fun k hk _ => setRow_other _ _ _ _ (by omega)))
end Go.Proofs.Ytgpnfgjmdehfdaa
