/- The walks of package frame, sixth part: Get. -/
import Derived.Test.YtkoofoglcheonaaFrE
import Derived.Test.YtkoofoglcheonaaFrmCut
import Derived.Test.YtkoofoglcheonaaWApart
namespace Go.Proofs.Ytkoofoglcheonaa
set_option linter.unusedVariables false
set_option linter.unusedSimpArgs false
open Go.RowKit Go.Proofs.YtkoofoglcheonaaW.PrintWords

theorem next_any {p at_ : Nat} {ok : Nat → Prop} {b : List UInt8} {w : World} (hR : Rdr w p ok b at_) (hat : at_ ≤ 1000000000000) :
    Calls Try.prog 45 #[.pointer (some ⟨p, 0, none⟩)] w (NextPost p ok b at_ w) := by
  by_cases hf : Frm.fits b
  · exact next_fits hR hf hat
  · have hn : ¬ Frm.is b := fun h => hf h.1
    by_cases h9 : b.length < 9
    · exact (next_short hR h9).mono fun e w' h => .inr ⟨hn, h.1, h.2⟩
    · refine (next_long hR (by omega) ?_).mono fun e w' h => .inr ⟨hn, h.1, h.2⟩
      unfold Frm.fits at hf
      omega
theorem info44 : (Try.prog.info? 44).map (fun i => (i.zero, i.size, i.bytes)) = some (some (.agg #[.int .i64 0, .slice none 0 0]), 2, 32) := by kernel_rfl
/-- What Get tells, the data of no two frames in one block. -/
def GotS (b : List UInt8) (w : World) (e : Ending) (w' : World) : Prop :=
  ∃ v, e = .returned (.tuple #[v, .int .i64 (Frm.size (Frm.get b))]) ∧ Kd.S frK 44 w' w.heap.size (fun k => w.heap.size < k) v (Frm.get b) ∧ In w w'
/-- What Get tells. -/
def Got (b : List UInt8) (w : World) (e : Ending) (w' : World) : Prop :=
  ∃ v, e = .returned (.tuple #[v, .int .i64 (Frm.size (Frm.get b))]) ∧ frK.R 44 w' w.heap.size (fun k => w.heap.size < k) v (Frm.get b) ∧ In w w'
set_option maxRecDepth 100000 in
set_option maxHeartbeats 1600000 in
theorem getS_any {A : Option Addr} {n c : Nat} {b : List UInt8} {w : World} (hA : byte.C w A n b) (hc : n ≤ c) (hl : b.length ≤ 1000000000) :
    Calls Try.prog 28 #[.slice A n c] w (GotS b w) := by
  have hF : Kd.F byte w (fun k => k < w.heap.size) A n b := Kd.C_F Kd.heap_scalar hA
  have hin0 := In.alloc (In.refl w) (.cells #[.slice A n c, .int .i64 0] 83)
  have hR0 : Rdr (w.alloc (.cells #[.slice A n c, .int .i64 0] 83)) w.heap.size (fun k => k < w.heap.size) b 0 := ⟨A, n, c, blk_new w _, hc, Kd.F_below hF hin0.out, Nat.lt_irrefl _⟩
  have HR0 := Lib.hid hR0
  have HL := Lib.hid hl
  clear hR0 hF hA hl hc
  go_enter Try.func28, Try.ntmps28
  go_wp2_with fail
  go_loopg [4, 6, 7] (b.length + 1) (fun kq v _ _ wr => ∃ (l : List Fr) (b' : List UInt8), Hid (Frm.get b = l ++ Frm.get b') ∧ Hid (Frm.size l + b'.length = b.length) ∧ Hid (b'.length < kq) ∧ Hid (Rdr wr w.heap.size (fun k => k < w.heap.size) b' (Frm.size l)) ∧ Hid (Kd.S frK 44 wr w.heap.size (fun k => w.heap.size < k) v l) ∧ In w wr)
  case atStart => exact ⟨[], b, Lib.hid rfl, Lib.hid (by simp [Frm.size]), Lib.hid (by omega), HR0, Lib.hid (Kd.S_nil _ _ _ _ _), hin0⟩
  case round =>
    clear HR0 hin0
    obtain ⟨l, b', hg, hs, hk, hr, hv, hin⟩ := hrel
    obtain ⟨k1, rfl⟩ : ∃ k1, gk = k1 + 1 := ⟨gk - 1, by have := hk.out; omega⟩
    have HN := Lib.hid (next_any hr.out (by have := hs.out; have := HL.out; omega))
    go_wp2_with fail
    refine HN.out.mono ?_
    rintro e w1 hpost
    rcases hpost with ⟨hy, cs, rfl, hM, hR1, hk1, hb1⟩ | ⟨hno, rfl, hin1⟩
    · obtain ⟨v, rfl, hvd⟩ := frK_openM hM
      obtain ⟨A1, c1, rfl⟩ := Kd.R_slice hvd
      have hlen := (hy.1).1
      have hnl := Frm.is_len hy
      have hg2 := Lib.hid (show Frm.get b = (l ++ [Frm.part b']) ++ Frm.get (b'.drop (9 + (Frm.part b').d.length)) by rw [hg.out, Frm.get_yes hy, List.append_assoc]; rfl)
      have hsz := Lib.hid (show Frm.size (l ++ [Frm.part b']) = Frm.size l + (9 + (Frm.part b').d.length) by rw [Frm.size_append]; rfl)
      have hll : l.length ≤ 1000000000 := by
        have h1 := Frm.len_size l
        have h2 := hs.out
        have h3 := HL.out
        omega
      have hs2 := Lib.hid (show Frm.size (l ++ [Frm.part b']) + (b'.drop (9 + (Frm.part b').d.length)).length = b.length by rw [hsz.out, List.length_drop]; have := hs.out; omega)
      have hk2 := Lib.hid (show (b'.drop (9 + (Frm.part b').d.length)).length < k1 by rw [List.length_drop]; have := hk.out; omega)
      rw [← hsz.out] at hR1
      generalize b'.drop (9 + (Frm.part b').d.length) = b2 at *
      have hin1 : In w w1 := In.of_kept hin hk1 hb1 (fun k hk => by omega)
      have hv1 : Kd.S frK 44 w1 w.heap.size (fun k => w.heap.size < k ∧ ¬ wr.heap.size ≤ k) u4 l := Kd.S_step (Kd.S_mono (Kd.S_bound hv.out) (fun k hk => ⟨hk.1, by have := hk.2.2.1; omega⟩)) (fun k ho hlt => hk1.2 k (by omega) (fun he => by omega))
      have HV1 := Lib.hid hv1
      have HR1 := Lib.hid hR1
      have hx := Lib.hid (show frK.M w1 w.heap.size (fun k => wr.heap.size ≤ k) (Frm.part b') [.int .i64 (Frm.part b').k, .slice A1 (Frm.part b').d.length c1] from frK.M_lower hin.size (frK_mkM hvd))
      have hap : ∀ k, wr.heap.size ≤ k → w.heap.size < k ∧ some k ≠ u4.ownBlock := fun k hk => ⟨by have := Kd.S_lt hv.out; have h0 := hr.out; obtain ⟨_, _, _, hb0, _⟩ := h0; have := blk_lt hb0; omega, fun he => by have := Kd.S_lt hv.out k he.symm; omega⟩
      have HAP := Lib.hid hap
      clear hM hvd hR1 hv1 hy hlen hnl hk1 hb1 hap hsz
      generalize Frm.part b' = f at *
      go_wp2_with (at_builtin; refine Kd.S_append frK (w0 := w) w.heap.size rfl (.tmp 24) (.tmp 26) 41 44 (.agg #[.int .i64 0, .slice none 0 0]) 32 rfl Try.underlying41 info44 rfl (by decide) (by decide) u4 l f [.int .i64 f.k, .slice A1 f.d.length c1] (fun k => w.heap.size < k) (fun k => wr.heap.size ≤ k) rfl ?r1 ?r2 ?r3 ?r4 ?r5 ?r6 ?r7 ?r8 ?_)
      case r1 => first | rfl | (go_simp; done)
      case r2 => exact Kd.M_below hx.out (In.alloc (In.refl _) _).out
      case r3 => exact HAP.out
      case r4 =>
        intro k hk
        have := hin1.size
        simp at hk
        have h0 := HR1.out
        obtain ⟨_, _, _, hb0, _⟩ := h0
        have := blk_lt hb0
        omega
      case r5 => exact Kd.S_below HV1.out (In.alloc (In.refl _) _).out
      case r6 => exact (In.alloc hin1 _).out
      case r7 => exact (In.alloc hin1 _).size
      case r8 => omega
      intro v3 w3 hv3 hb3 hg3 hat3
      have hne : some w.heap.size ≠ u4.ownBlock := fun he => by have := (Kd.S_R hv.out).1 _ he.symm; omega
      obtain ⟨A5, n5, c5, hb5, hle5, hF5, hp5⟩ := (HR1.out : Rdr _ _ _ _ _)
      have hr3 : Rdr w3 w.heap.size (fun k => k < w.heap.size) b2 (Frm.size (l ++ [f])) := by
        refine ⟨A5, n5, c5, ?_, hle5, Kd.F_grown (Kd.F_alloc hF5 _) hg3 (fun k hk he => ?_), hp5⟩
        · exact (hg3.block _ (by simp; have := blk_lt hb5; omega) hne).trans (blk_alloc hb5 _)
        · have := Kd.S_base hv.out k he.symm
          omega
      have HR3 := Lib.hid hr3
      have HV3 := Lib.hid hv3
      clear hb5 hF5 hr3 hv3 hg3 hat3 hne
      go_wp2_with fail
      go_roundg k1
      case measure => omega
      case rel => exact ⟨l ++ [f], b2, hg2, hs2, Lib.hid (by have := hk2.out; omega), HR3, HV3, hb3⟩
    · obtain ⟨A3, n3, c3, hb3, _⟩ := hr.out
      have hc1 : (w1.alloc (.cells #[.int .i64 0, .slice none 0 0] 44)).cell? ⟨w.heap.size, 1, none⟩ = some (.int .i64 (Frm.size l)) := In.cell (blk_cell hb3 1) (In.alloc hin1 _)
      have hfin := Lib.hid (show Frm.get b = l by rw [hg.out, Frm.get_no hno, List.append_nil])
      have hv1 := Lib.hid (Kd.S_below hv.out hin1.out)
      obtain ⟨A4, c4, rfl⟩ := Kd.S_slice hv.out
      clear hb3
      go_wp2_with fail
      generalize hw9 : w1.alloc (.cells #[.int .i64 0, .slice none 0 0] 44) = w9 at *
      go_quiet (fail)
      go_wp2_with fail
      go_ret2
      have hin9 : In w w9 := by rw [← hw9]; exact In.alloc (In.trans hin hin1) _
      refine ⟨.slice A4 l.length c4, by rw [hfin.out]; rfl, ?_, In.drewN hin9 _⟩
      rw [hfin.out]
      refine Kd.S_below hv1.out (In.drewN ?_ _).out
      rw [← hw9]
      exact In.alloc (In.refl _) _
theorem get_any {A : Option Addr} {n c : Nat} {b : List UInt8} {w : World} (hA : byte.C w A n b) (hc : n ≤ c) (hl : b.length ≤ 1000000000) :
    Calls Try.prog 28 #[.slice A n c] w (Got b w) :=
  (getS_any hA hc hl).mono fun _ _ h => by
    obtain ⟨v, h1, h2, h3⟩ := h
    exact ⟨v, h1, Kd.S_R h2, h3⟩
end Go.Proofs.Ytkoofoglcheonaa
