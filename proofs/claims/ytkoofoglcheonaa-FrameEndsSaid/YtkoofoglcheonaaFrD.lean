/- The walks of package frame, fourth part: the next frame, where there is none. -/
import Derived.Test.YtkoofoglcheonaaFrC
namespace Go.Proofs.Ytkoofoglcheonaa
set_option linter.unusedVariables false
set_option linter.unusedSimpArgs false
open Go.RowKit Go.Proofs.YtkoofoglcheonaaW.PrintWords

theorem In.of_kept {W w w' : World} {S : Nat → Prop} (h : In W w) (hk : Kept w w' S) (hb : Below 0 w w') (hS : ∀ k, S k → W.heap.size ≤ k) : In W w' :=
  ⟨hb.os.trans h.out.os, hb.tape.trans h.out.tape, hb.output.trans h.out.output, Nat.le_trans h.size hk.1, fun i hi => (hk.2 i (Nat.lt_of_lt_of_le hi h.size) (fun hs => by have := hS i hs; omega)).trans (h.out.block i hi)⟩
theorem In.setRow {W w : World} (h : In W w) {g : Nat} (hg : W.heap.size ≤ g) (c : Array Value) : In W (w.setRow g c) := h.out.trans ⟨rfl, rfl, rfl, by simp, fun i hi => setRow_other _ _ _ _ (by omega)⟩
theorem size44 : (Try.prog.info? 44).map (·.size) = some 2 := by kernel_rfl
/-- A reader at block p: the bytes that are left, in blocks that satisfy ok; how many are behind. -/
def Rdr (W : World) (p : Nat) (ok : Nat → Prop) (b : List UInt8) (at_ : Nat) : Prop :=
  ∃ A n c, W.heap[p]? = some (.cells #[.slice A n c, .int .i64 at_] 83 (0, 0)) ∧ n ≤ c ∧ Kd.F byte W ok A n b ∧ ¬ ok p
theorem ne_num {a b : Nat} (h : a ≠ b) : ((a : Int) == (b : Int)) = false := by
  rw [beq_eq_false_iff_ne]
  omega
theorem bne_num {a b : Nat} (h : a ≠ b) : ((a : Int) != (b : Int)) = true := by
  rw [bne, ne_num h]
  rfl
theorem take_byte {w : World} {A : Option Addr} {n m : Nat} {b : List UInt8} (h : byte.C w A n b) (hm : m ≤ n) : byte.C w A m (b.take m) := by
  obtain rfl := h.1
  have := Kd.C_take h hm
  rwa [show (b.take m).length = m by rw [List.length_take]; omega] at this
/-- Cuts of a slice of bytes, by their run. -/
theorem bcut_mid (A : Option Addr) {c n m : Nat} (lo hi : Int) (h0 : 0 ≤ lo) (h1 : hi = lo + (m : Int)) (h2 : hi ≤ n) (hc : n ≤ c) :
    ∃ A' c', (∀ w : World, (Instr.slice 34 (.slice A n c) (some (.int .i64 lo)) (some (.int .i64 hi)) none).run Try.prog w = .ok (.slice A' m c') w) ∧ m ≤ c' ∧ (∀ (W : World) (ok : Nat → Prop) (b : List UInt8), Kd.F byte W ok A n b → Kd.F byte W ok A' m ((b.drop lo.toNat).take m)) := by
  obtain ⟨i0, hi0, hz0, hz1, hz2⟩ := info_parts info5
  refine ⟨if c = lo.toNat then A else A.map (·.add (lo.toNat * 1)), c - lo.toNat, fun w => ?_, ?_, fun W ok b hF => ?_⟩
  · rw [cut_mid (P := Try.prog) 34 5 .i64 .i64 Try.underlying34 hi0 1 hz1 A n c lo hi h0 (by omega) h2 hc w, show hi.toNat - lo.toNat = m from by omega]
  · omega
  · refine Kd.F_imp hF (fun W' hC => ?_)
    obtain rfl := hC.1
    have h3 := Kd.C_drop hC (m := lo.toNat) (by omega) hc
    have h4 := take_byte h3 (m := m) (by rw [List.length_drop]; omega)
    exact h4
theorem bcut_from (A : Option Addr) {c n m : Nat} (lo : Int) (h0 : 0 ≤ lo) (h1 : (n : Int) = lo + (m : Int)) (hc : n ≤ c) :
    ∃ A' c', (∀ w : World, (Instr.slice 34 (.slice A n c) (some (.int .i64 lo)) none none).run Try.prog w = .ok (.slice A' m c') w) ∧ m ≤ c' ∧ (∀ (W : World) (ok : Nat → Prop) (b : List UInt8), Kd.F byte W ok A n b → Kd.F byte W ok A' m (b.drop lo.toNat)) := by
  obtain ⟨i0, hi0, hz0, hz1, hz2⟩ := info_parts info5
  refine ⟨if c = lo.toNat then A else A.map (·.add (lo.toNat * 1)), c - lo.toNat, fun w => ?_, ?_, fun W ok b hF => ?_⟩
  · rw [cut_from (P := Try.prog) 34 5 .i64 Try.underlying34 hi0 1 hz1 A n c lo h0 (by omega) w, show n - lo.toNat = m from by omega]
  · omega
  · refine Kd.F_imp hF (fun W' hC => ?_)
    obtain rfl := hC.1
    have h3 := Kd.C_drop hC (m := lo.toNat) (by omega) hc
    rw [show (b.drop lo.toNat).length = m from by rw [List.length_drop]; omega] at h3
    exact h3
theorem bcut_to (A : Option Addr) {c n m : Nat} (hi : Int) (h1 : hi = (m : Int)) (h2 : m ≤ n) (hc : n ≤ c) :
    (∀ w : World, (Instr.slice 34 (.slice A n c) none (some (.int .i64 hi)) none).run Try.prog w = .ok (.slice A m c) w) ∧ (∀ (W : World) (ok : Nat → Prop) (b : List UInt8), Kd.F byte W ok A n b → Kd.F byte W ok A m (b.take m)) := by
  obtain ⟨i0, hi0, hz0, hz1, hz2⟩ := info_parts info5
  refine ⟨fun w => ?_, fun W ok b hF => Kd.F_imp hF (fun W' hC => take_byte hC h2)⟩
  rw [cut_to (P := Try.prog) 34 5 .i64 Try.underlying34 hi0 A n c hi (by omega) (by omega) hc w, show hi.toNat = m from by omega]
set_option maxRecDepth 100000 in
set_option maxHeartbeats 800000 in
theorem next_short {p at_ : Nat} {ok : Nat → Prop} {b : List UInt8} {w : World} (hR : Rdr w p ok b at_) (h9 : b.length < 9) :
    Calls Try.prog 45 #[.pointer (some ⟨p, 0, none⟩)] w fun e w' => e = .returned (.tuple #[.agg #[.int .i64 0, .slice none 0 0], .bool false]) ∧ In w w' := by
  obtain ⟨A, n, c, hb, hc, hF, hp⟩ := hR
  obtain rfl := Kd.F_len hF
  have hc0 : w.cell? ⟨p, 0, none⟩ = some (.slice A b.length c) := blk_cell hb 0
  have hpl := blk_lt hb
  clear hF hp hb
  go_enter Try.func45, Try.ntmps45
  go_wp2_with fail
  refine bodyPost_ret (results_ct rfl _ _ w.heap.size 44 _ (0, 0) _ rfl (blk_new w _) Try.underlying44 rfl size44) rfl ?_
  exact ⟨rfl, In.alloc (In.refl _) _⟩
set_option maxRecDepth 100000 in
set_option maxHeartbeats 800000 in
theorem next_long {p at_ : Nat} {ok : Nat → Prop} {b : List UInt8} {w : World} (hR : Rdr w p ok b at_) (h9 : 9 ≤ b.length) (hn : 262144 < Frm.num b 0 ∨ b.length - 9 < Frm.num b 0) :
    Calls Try.prog 45 #[.pointer (some ⟨p, 0, none⟩)] w fun e w' => e = .returned (.tuple #[.agg #[.int .i64 0, .slice none 0 0], .bool false]) ∧ In w w' := by
  obtain ⟨A, n, c, hb, hc, hF, hp⟩ := hR
  obtain rfl := Kd.F_len hF
  have hC := Lib.hid (Kd.F_now hF)
  have hmx := (byte_len hC.out).2
  have hc0 : w.cell? ⟨p, 0, none⟩ = some (.slice A b.length c) := blk_cell hb 0
  have hpl := blk_lt hb
  have hnl := Frm.num_lt b 0
  have hin := In.alloc (In.refl w) (.cells #[.int .i64 0, .slice none 0 0] 44)
  have HN := Lib.hid (number_any (p := p) (n := b.length) (c := c) (A := A) (xs := b) (w := w.alloc (.cells #[.int .i64 0, .slice none 0 0] 44)) 0 (In.cell hc0 hin) (Kd.C_below hC.out hin.out) (by omega))
  clear hF hp hb
  by_cases hn1 : 262144 < Frm.num b 0
  · have hd : decide (262144 < (Frm.num b 0 : Int)) = true := decide_eq_true (by omega)
    go_enter Try.func45, Try.ntmps45
    go_wp2_with fail
    refine HN.out.mono ?_
    rintro e w1 ⟨rfl, ⟨q, rfl⟩⟩
    go_wp2_with fail
    refine bodyPost_ret (results_ct rfl _ _ w.heap.size 44 _ (0, 0) _ rfl (blk_put (blk_put (blk_drewN (blk_new w _) _) 0 _ rfl) 1 _ rfl) Try.underlying44 rfl size44) rfl ?_
    exact ⟨rfl, In.set (In.set (In.drewN (In.alloc (In.refl _) _) _) (Nat.le_refl _) _ _) (Nat.le_refl _) _ _⟩
  · have hd : decide (262144 < (Frm.num b 0 : Int)) = false := decide_eq_false (by omega)
    have hd2 : decide ((b.length : Int) - 9 < (Frm.num b 0 : Int)) = true := decide_eq_true (by omega)
    go_enter Try.func45, Try.ntmps45
    go_wp2_with fail
    refine HN.out.mono ?_
    rintro e w1 ⟨rfl, ⟨q, rfl⟩⟩
    go_wp2_with fail
    refine bodyPost_ret (results_ct rfl _ _ w.heap.size 44 _ (0, 0) _ rfl (blk_put (blk_put (blk_drewN (blk_new w _) _) 0 _ rfl) 1 _ rfl) Try.underlying44 rfl size44) rfl ?_
    exact ⟨rfl, In.set (In.set (In.drewN (In.alloc (In.refl _) _) _) (Nat.le_refl _) _ _) (Nat.le_refl _) _ _⟩
end Go.Proofs.Ytkoofoglcheonaa
