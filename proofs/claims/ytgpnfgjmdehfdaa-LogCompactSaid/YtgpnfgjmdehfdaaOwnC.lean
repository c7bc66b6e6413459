/- Entries in memory of their own. -/
import Derived.Test.YtgpnfgjmdehfdaaLogB
import Derived.Deep.AppendLies
import Derived.Deep.RegionLaw
namespace Go.Proofs.Ytgpnfgjmdehfdaa
set_option linter.unusedVariables false
set_option linter.unusedSimpArgs false
open Go.RowKit Go.Proofs.YtgpnfgjmdehfdaaW.PrintWords

theorem info45 : (Try.prog.info? 45).map (fun i => (i.zero, i.size, i.bytes)) = some (some (.agg #[(.int .i64 0), (.int .u8 0), (.slice none 0 0), (.slice none 0 0), (.slice none 0 0), (.slice none 0 0), (.slice none 0 0)]), 7, 136) := by kernel_rfl
def entsSmall (xs : List Ent) : Prop := xs.length ≤ 1000000000 ∧ ∀ (j : Nat) (e : Ent), xs[j]? = some e → e.c.length ≤ 1000000000 ∧ e.g.len ≤ 1000000000
set_option maxRecDepth 100000 in
set_option maxHeartbeats 1600000 in
theorem own_any {A : Option Addr} {c : Nat} {xs : List Ent} {w : World} (hA : entK.C w A xs.length xs) (hs : entsSmall xs) :
    Calls Try.prog 55 #[.slice A xs.length c] w fun e w' => ∃ v, e = .returned v ∧ entK.R 45 w' w.heap.size (fun _ => True) v xs ∧ In w w' := by
  have hm := hs.1
  have HA := Lib.hid hA
  have HS := Lib.hid hs.2
  clear hA hs
  go_enter Try.func55, Try.ntmps55
  go_wp2_with fail
  go_loopw [3, 8] (fun v i wr => ∃ j : Nat, j ≤ xs.length ∧ i = .int .i64 j ∧ entK.R 45 wr w.heap.size (fun _ => True) v (xs.take j) ∧ In w wr) (fun _ i _ => xs.length - (intOf i).toNat)
  case atStart => exact ⟨0, by omega, rfl, Kd.R_nil _ _ _ _ _, In.refl _⟩
  case round =>
    obtain ⟨j, hj, rfl, hr, hin⟩ := hrel
    have HR := Lib.hid hr
    clear hr
    by_cases hl : j < xs.length
    · have hd1 : decide ((j : Int) < (xs.length : Int)) = true := decide_eq_true (by omega)
      obtain ⟨ad, x, cs, rfl, hx, hK, hlen, hcs⟩ := row_get (Kd.C_below HA.out hin.out) hl
      have HX := Lib.hid hK
      have HJ := Lib.hid hx
      have HCS := Lib.hid hcs
      obtain ⟨hsc, hsg⟩ := HS.out j x hx
      obtain ⟨A2, c2, A3, c3, A4, c4, A5, c5, A6, c6, rfl, l2, g2, l3, g3, l4, g4, l5, g5, l6, g6⟩ := entK_open hK
      have HG := Lib.hid (cfgK_mk (x := x.g) l3 g3 l4 g4 l5 g5 l6 g6)
      have HC := Lib.hid g2
      clear hx hK hcs g2 g3 g4 g5 g6
      have hzero := blk_new wr (.cells #[.int .i64 0, .int .u8 0, .slice none 0 0, .slice none 0 0, .slice none 0 0, .slice none 0 0, .slice none 0 0] 45)
      have HZ := Lib.hid hzero
      clear hzero
      go_upto_region 5 with (first
        | (refine wpList_load_any rfl 45 (.tmp 10) rfl (ad.add (j * 7)) rfl [.int .i64 x.t, .int .u8 x.k, .slice A2 x.c.length c2, .slice A3 x.g.v.length c3, .slice A4 x.g.o.length c4, .slice A5 x.g.l.length c5, .slice A6 x.g.w.length c6] _ HCS.out Try.underlying45 rfl size45 ?_)
        | (refine wpList_store_row rfl 45 (.tmp 5) (.tmp 11) rfl wr.heap.size #[.int .i64 x.t, .int .u8 x.k, .slice A2 x.c.length c2, .slice A3 x.g.v.length c3, .slice A4 x.g.o.length c4, .slice A5 x.g.l.length c5, .slice A6 x.g.w.length c6] rfl rfl 45 _ HZ.out size45 rfl (by simp [Value.oneCell']) ?_))
      have hblk := setRow_heap (wr.alloc (.cells #[.int .i64 0, .int .u8 0, .slice none 0 0, .slice none 0 0, .slice none 0 0, .slice none 0 0, .slice none 0 0] 45)) wr.heap.size _ #[.int .i64 x.t, .int .u8 x.k, .slice A2 x.c.length c2, .slice A3 x.g.v.length c3, .slice A4 x.g.o.length c4, .slice A5 x.g.l.length c5, .slice A6 x.g.w.length c6] _ _ HZ.out
      have hin1 := In.setRow (In.alloc (In.refl wr) (.cells #[.int .i64 0, .int .u8 0, .slice none 0 0, .slice none 0 0, .slice none 0 0, .slice none 0 0, .slice none 0 0] 45)) (g := wr.heap.size) (Nat.le_refl _) #[.int .i64 x.t, .int .u8 x.k, .slice A2 x.c.length c2, .slice A3 x.g.v.length c3, .slice A4 x.g.o.length c4, .slice A5 x.g.l.length c5, .slice A6 x.g.w.length c6]
      have hgl := blk_lt hblk
      generalize (wr.alloc (.cells #[.int .i64 0, .int .u8 0, .slice none 0 0, .slice none 0 0, .slice none 0 0, .slice none 0 0, .slice none 0 0] 45)).setRow wr.heap.size #[.int .i64 x.t, .int .u8 x.k, .slice A2 x.c.length c2, .slice A3 x.g.v.length c3, .slice A4 x.g.o.length c4, .slice A5 x.g.l.length c5, .slice A6 x.g.w.length c6] = w1 at *
      clear HZ HCS
      have hk2 := In.cells (show w1.cell? ⟨wr.heap.size, 2, none⟩ = some (.slice A2 x.c.length c2) from blk_cell hblk 2)
      have hk3 := In.cells (show w1.cell? ⟨wr.heap.size, 3, none⟩ = some (.slice A3 x.g.v.length c3) from blk_cell hblk 3)
      have hk4 := In.cells (show w1.cell? ⟨wr.heap.size, 4, none⟩ = some (.slice A4 x.g.o.length c4) from blk_cell hblk 4)
      have hk5 := In.cells (show w1.cell? ⟨wr.heap.size, 5, none⟩ = some (.slice A5 x.g.l.length c5) from blk_cell hblk 5)
      have hk6 := In.cells (show w1.cell? ⟨wr.heap.size, 6, none⟩ = some (.slice A6 x.g.w.length c6) from blk_cell hblk 6)
      have hfz : ∀ w', In w1 w' → ∀ i, w'.frozen? ⟨wr.heap.size, i, none⟩ = false := fun w' h i => by rw [(bcell h.out).2 _ i hgl]; exact blk_frozen hblk i
      have hf2 : ∀ w', In w1 w' → w'.frozen? ⟨wr.heap.size, 2, none⟩ = false := fun w' h => hfz w' h 2
      have hf3 : ∀ w', In w1 w' → w'.frozen? ⟨wr.heap.size, 3, none⟩ = false := fun w' h => hfz w' h 3
      have hf4 : ∀ w', In w1 w' → w'.frozen? ⟨wr.heap.size, 4, none⟩ = false := fun w' h => hfz w' h 4
      have hf5 : ∀ w', In w1 w' → w'.frozen? ⟨wr.heap.size, 5, none⟩ = false := fun w' h => hfz w' h 5
      have hf6 : ∀ w', In w1 w' → w'.frozen? ⟨wr.heap.size, 6, none⟩ = false := fun w' h => hfz w' h 6
      clear hfz
      have HB := Lib.hid hblk
      clear hblk
      have h0 := In.refl w1
      have h01 := In.drew (In.refl w1)
      go_region_law ((first
        | (go_simp; go_at_call 65; refine Calls.mono (cloneBytes_any (A := A2) (xs := x.c) (Kd.C_below HC.out (hin1.trans (by assumption)).out) hsc) ?_; rintro e wa ⟨r0, rfl, hr0, hb0⟩; have hi0 := In.trans (show In w1 _ by assumption) hb0; obtain ⟨B0, d0, rfl⟩ := Kd.R_slice hr0)
        | (go_simp; go_at_call 83; refine Calls.mono (ownConfig_any (x := x.g) (cfgK.K_below (hin1.trans (by assumption)).out HG.out) hsg) ?_; rintro e wb ⟨ds, rfl, hr1, hb1⟩; have hi1 := In.trans (show In w1 _ by assumption) hb1; obtain ⟨v1, v2, v3, v4, rfl, m1, m2, m3, m4⟩ := cfgK_openM hr1; obtain ⟨B1, d1, rfl⟩ := Kd.R_slice m1; obtain ⟨B2, d2, rfl⟩ := Kd.R_slice m2; obtain ⟨B3, d3, rfl⟩ := Kd.R_slice m3; obtain ⟨B4, d4, rfl⟩ := Kd.R_slice m4)))
      all_goals
        generalize hF : World.setCell _ _ _ = wf
        have hbb := blk_below HB.out hi1.out
        have hb : wf.heap[wr.heap.size]? = some (.cells #[.int .i64 x.t, .int .u8 x.k, .slice B0 x.c.length d0, .slice B1 x.g.v.length d1, .slice B2 x.g.o.length d2, .slice B3 x.g.l.length d3, .slice B4 x.g.w.length d4] 45 (0, 0)) := by
          rw [← hF]
          first
            | exact blk_put (blk_put (blk_put (blk_put (blk_put hbb 2 _ rfl) 3 _ rfl) 4 _ rfl) 5 _ rfl) 6 _ rfl
            | exact blk_put (blk_put (blk_put (blk_put (blk_put hbb 3 _ rfl) 4 _ rfl) 5 _ rfl) 6 _ rfl) 2 _ rfl
        have hmv : ∀ i, i ≠ wr.heap.size → wf.heap[i]? = wb.heap[i]? := fun i hi => by
          rw [← hF, Below.heap_setCell _ _ _ i hi, Below.heap_setCell _ _ _ i hi, Below.heap_setCell _ _ _ i hi, Below.heap_setCell _ _ _ i hi, Below.heap_setCell _ _ _ i hi]
        have hle := Nat.le_refl wr.heap.size
        have hinF : In wr wf := by
          rw [← hF]
          exact In.set (In.set (In.set (In.set (In.set (hin1.trans hi1) hle _ _) hle _ _) hle _ _) hle _ _) hle _ _
        clear hF
        have hwr0 := hin.size
        have n0 := ((Made.below hr0 hb1).far hbb (by decide) hmv).okd (hin1.trans h01) (base := w.heap.size) hwr0
        have n1 := (Made.far m1 hbb (by decide) hmv).okd (hin1.trans hi0) (base := w.heap.size) hwr0
        have n2 := (Made.far m2 hbb (by decide) hmv).okd (hin1.trans hi0) (base := w.heap.size) hwr0
        have n3 := (Made.far m3 hbb (by decide) hmv).okd (hin1.trans hi0) (base := w.heap.size) hwr0
        have n4 := (Made.far m4 hbb (by decide) hmv).okd (hin1.trans hi0) (base := w.heap.size) hwr0
        have HM := Lib.hid (entK_mkM (x := x) n0 n1 n2 n3 n4)
        have hlt := Kd.R_lt HR.out
        have HO := Lib.hid (Kd.R_below HR.out hinF.out)
        have HT := Lib.hid (show xs.take (j + 1) = xs.take j ++ [x] by rw [List.take_add_one, HJ.out]; rfl)
        have hinW := hin.trans hinF
        have HLT := Lib.hid hlt
        have HBB := Lib.hid hb
        clear hb hlt n0 n1 n2 n3 n4 hr0 hr1 m1 m2 m3 m4 hbb hmv hk2 hk3 hk4 hk5 hk6 hf2 hf3 hf4 hf5 hf6
        have hjl : (xs.take j).length ≤ 1000000000 := by rw [List.length_take]; omega
        go_wp2_with (first
          | (refine wpList_load_row rfl 45 (.tmp 5) rfl wr.heap.size rfl 45 #[.int .i64 x.t, .int .u8 x.k, .slice B0 x.c.length d0, .slice B1 x.g.v.length d1, .slice B2 x.g.o.length d2, .slice B3 x.g.l.length d3, .slice B4 x.g.w.length d4] (0, 0) _ HBB.out Try.underlying45 rfl size45 ?_)
          | (at_builtin; refine Kd.R_append entK (w0 := w) w.heap.size rfl (.tmp 20) (.tmp 22) 22 45 _ 136 rfl Try.underlying22 info45 rfl (by decide) (by decide) _ (xs.take j) x [.int .i64 x.t, .int .u8 x.k, .slice B0 x.c.length d0, .slice B1 x.g.v.length d1, .slice B2 x.g.o.length d2, .slice B3 x.g.l.length d3, .slice B4 x.g.w.length d4] (fun _ => True) (fun q => wr.heap.size ≤ q) rfl rfl HM.out (fun k hk => ⟨trivial, fun he => by have := HLT.out k he.symm; omega⟩) (fun _ _ => trivial) HO.out hinW.out hinW.size (by omega) ?_))
        intro v6 w6 hr6 hb6 hg6 hat6
        rw [← HT.out] at hr6
        have HR6 := Lib.hid hr6
        clear hr6 hg6 hat6
        go_wp2_with fail
        go_roundw
        case rel => exact ⟨j + 1, by omega, by go_num, HR6.out, hb6⟩
        case measure => simp [intOf]; omega
    · obtain rfl : j = xs.length := by omega
      rw [List.take_length] at HR
      have hd1 : decide ((xs.length : Int) < (xs.length : Int)) = false := decide_eq_false (by omega)
      go_wp2_with fail
      go_ret
      exact ⟨_, rfl, HR.out, hin⟩
end Go.Proofs.Ytgpnfgjmdehfdaa
