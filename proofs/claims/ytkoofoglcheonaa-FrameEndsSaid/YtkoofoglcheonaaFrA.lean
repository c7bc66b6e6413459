/- The walks of package frame and what it calls, first part: four, Grow, Concat, Clone. -/
import Derived.Test.YtkoofoglcheonaaOrd
import Derived.Test.YtkoofoglcheonaaFrm
import Derived.Test.YtkoofoglcheonaaWZeros
import Derived.Test.YtkoofoglcheonaaWKept
import Derived.Test.YtkoofoglcheonaaWNEv
import Derived.Test.YtkoofoglcheonaaWMore
import Derived.Lib.SliceRun
import Derived.Deep.MidRow
namespace Go.Proofs.Ytkoofoglcheonaa
set_option linter.unusedVariables false
set_option linter.unusedSimpArgs false
open Go.RowKit Go.Proofs.YtkoofoglcheonaaW.PrintWords

theorem In.cells {W : World} {a : Addr} {v : Value} (hc : W.cell? a = some v) : ∀ w, In W w → w.cell? a = some v := fun w h => pw_cell_below h hc
theorem In.drewN {W w : World} (h : In W w) (n : Nat) : In W (w.drewN n) := pw_below_drewN h n
theorem In.drawn {W w w1 : World} (h : In W w) (hd : Drawn0 w w1) : In W w1 := by obtain ⟨n, rfl⟩ := hd; exact In.drewN h n
theorem In.kept {W w : World} (h : In W w) (S : Nat → Prop) : Kept W w S := Kept.of_below h S
theorem box_cells (w : World) (cs : List Value) (t : TypeId) : ∀ w', In (w.alloc (.cells cs.toArray t)) w' → ∀ i, w'.cell? ⟨w.heap.size, i, none⟩ = cs[i]? := fun w' h i => by
  rw [(bcell h).1 w.heap.size i (by simp), blk_cell (blk_new w _) i, List.getElem?_toArray]
theorem add_add (p : Addr) (m i : Nat) : (p.add m).add i = p.add (m + i) := by
  unfold Addr.add
  by_cases h1 : m = 0
  · subst h1; simp
  · by_cases h2 : i = 0
    · subst h2; simp
    · have h3 : m + i ≠ 0 := by omega
      simp [h1, h2, h3, Nat.add_assoc]
/-- The cells of a thing from a place on. -/
def CellsAt (w : World) (p : Addr) (cs : List Value) : Prop := ∀ (i : Nat) (v : Value), cs[i]? = some v → w.cell? (p.add i) = some v
theorem CellsAt.below {w w1 : World} {p : Addr} {cs : List Value} (h : CellsAt w p cs) (hb : In w w1) : CellsAt w1 p cs := fun i v hv => In.cell (h i v hv) hb
theorem row_get {α : Type} {d : Kd α} {w : World} {A : Option Addr} {n : Nat} {xs : List α} (h : d.C w A n xs) {j : Nat} (hj : j < n) :
    ∃ ad x cs, A = some ad ∧ xs[j]? = some x ∧ d.K w x cs ∧ cs.length = d.sz ∧ CellsAt w (ad.add (j * d.sz)) cs := by
  obtain ⟨h1, h2, h3⟩ := h
  obtain ⟨ad, rfl, hc⟩ := h3 (by omega)
  have hl : j < xs.length := by omega
  obtain ⟨c, hlen, hr, hcell⟩ := hc j _ (List.getElem?_eq_getElem hl)
  exact ⟨ad, xs[j], c, rfl, List.getElem?_eq_getElem hl, hr, hlen, fun i v hv => by rw [add_add]; exact hcell i v hv⟩
section
variable {P : Program}
theorem run_loadVar_any (w : World) (p : Addr) (ty : TypeId) (cs : List Value) (d : TypeDesc) (hc : CellsAt w p cs)
    (hu : P.underlying ty = some d) (hd : d.isRow = true) (hi : (P.info? ty).map (·.size) = some cs.length) : (loadVar ty p).run P w = .ok (.agg cs.toArray) w := by
  have hl : (loadCells p cs.length).run P w = .ok cs.toArray w := run_loadCells_list (P := P) w p cs hc
  cases hq : P.info? ty with
  | none => simp [hq] at hi
  | some i =>
    have hs : i.size = cs.length := by simpa [hq] using hi
    have hagg : (isAgg ty).run P w = .ok true w := by
      unfold isAgg
      rw [Sem.run_bind, run_underlying hu w]
      cases d <;> simp_all
    simp [loadVar, Sem.run_bind, hagg, sizeOf, typeInfo, hq, hs, hl]
theorem wpList_load_any {ops : Array Oper} {rest : List Oper} {op : Oper} {a : Act} {w : World} {Q : Exit → Act → World → Prop} (hgd : op.guard = none) (ty : TypeId) (x : Operand) (ho : op.op = .load ty x)
    (p : Addr) (hx : a.eval x = .pointer (some p)) (cs : List Value) (d : TypeDesc) (hc : CellsAt w p cs)
    (hu : P.underlying ty = some d) (hd : d.isRow = true) (hi : (P.info? ty).map (·.size) = some cs.length)
    (h : wpList P ops Q rest (a.put op.dst (.agg cs.toArray)) w) : wpList P ops Q (op :: rest) a w :=
  wpList_plain hgd fun _ hK => by
    unfold Oper.wp execOp
    simp only [ho, hx, Instr.loadAt, Instr.sureAddr, Sem.run_bind, Sem.run_pure, Result.andThen_ok, run_loadVar_any w p ty cs d hc hu hd hi]
    exact hK _ _ h
end

/-- Bytes that were made since W. -/
def Mine (W w : World) (v : Value) (xs : List UInt8) : Prop := byte.R 5 w W.heap.size (fun _ => True) v xs
theorem Mine.nil (W w : World) : Mine W w (.slice none 0 0) [] := Kd.R_nil _ _ _ _ _
theorem Mine.below {W w w1 : World} {v : Value} {xs : List UInt8} (h : Mine W w v xs) (hb : In w w1) : Mine W w1 v xs := Kd.R_below h hb
theorem Mine.lower {W W0 w : World} {v : Value} {xs : List UInt8} (h : Mine W w v xs) (hb : In W0 W) : Mine W0 w v xs := Kd.R_lower h hb.size
theorem Mine.reads {W w : World} {v : Value} {xs : List UInt8} (h : Mine W w v xs) : ∃ A c, v = .slice A xs.length c ∧ xs.length ≤ c ∧ byte.C w A xs.length xs := Kd.R_reads h
theorem Mine.own {W w : World} {v : Value} {xs : List UInt8} (h : Mine W w v xs) : w.ownsRow W.heap.size 5 1 v xs.length (encs encB xs) := Kd.own_of_R h
theorem Mine.of_own {W w : World} {v : Value} {xs : List UInt8} (h : w.ownsRow W.heap.size 5 1 v xs.length (encs encB xs)) : Mine W w v xs := Kd.R_of_own (h1 := fun _ => rfl) (ok := fun _ => True) h (fun _ _ => trivial)
theorem Mine.of_own2 {W w : World} {v : Value} {xs : List UInt8} {n : Nat} (h : w.ownsRow W.heap.size 5 1 v n (encs encB xs)) (hn : n = xs.length) : Mine W w v xs := by subst hn; exact Mine.of_own h
theorem In.next2 {W w w1 w2 : World} (h : In W w) (h2 : In w w1) (hb : Below w1.heap.size w1 w2) : In W w2 := In.next (In.trans h h2) hb

set_option maxHeartbeats 400000 in
theorem four_any (n : Nat) (w : World) (hn : n < 4294967296) :
    Calls Try.prog 44 #[.int .u32 n] w fun e w' => ∃ v, e = .returned v ∧ Mine w w' v (Frm.four n) ∧ In w w' := by
  have hl := Lib.hid (byte_lit w (Frm.four n) (by simp [Frm.four]))
  have h0 : (UInt8.ofNat n).toNat = n % 256 := Frm.toNat_of n
  have h1 : (UInt8.ofNat (n / 256)).toNat = n / 256 % 256 := Frm.toNat_of _
  have h2 : (UInt8.ofNat (n / 65536)).toNat = n / 65536 % 256 := Frm.toNat_of _
  have h3 : (UInt8.ofNat (n / 16777216)).toNat = n / 16777216 % 256 := Frm.toNat_of _
  have hc : encs encB (Frm.four n) = [Value.int .u8 ((n : Int) % 256), Value.int .u8 ((n : Int) / 256 % 256), Value.int .u8 ((n : Int) / 65536 % 256), Value.int .u8 ((n : Int) / 16777216)] := by
    unfold Frm.four encs encB
    rw [show n / 16777216 % 256 = n / 16777216 from by omega] at h3
    simp only [List.map_cons, List.map_nil, h0, h1, h2, h3]
    simp
  have HC := Lib.hid hc
  clear h0 h1 h2 h3 hc
  go_enter Try.func44, Try.ntmps44
  go_wp2_with fail
  go_ret
  refine ⟨_, rfl, Mine.of_own ?_, In.alloc (In.refl _) _⟩
  have := own_lit_of (enc := encB) w w.heap.size 5 (Frm.four n) (Nat.le_refl _) (by simp [Frm.four])
  rw [HC.out] at this
  rw [HC.out]
  exact this


theorem info34b : (Try.prog.info? 34).map (fun i => (i.zero, i.size, i.bytes)) = some (some (.slice none 0 0), 1, 24) := by kernel_rfl
set_option maxHeartbeats 400000 in
theorem grow_any (n : Nat) (w : World) (hn : n ≤ 1000000000000) :
    Calls Try.prog 51 #[.slice none 0 0, .int .i64 n] w fun e w' => ∃ v, e = .returned v ∧ Mine w w' v [] ∧ In w w' := by
  by_cases h0 : n = 0
  · subst h0
    go_enter Try.func51, Try.ntmps51
    go_wp2_with fail
    go_ret
    exact ⟨_, rfl, Mine.nil _ _, In.refl _⟩
  · have hd : decide (0 < n) = true := decide_eq_true (by omega)
    go_enter Try.func51, Try.ntmps51
    go_wp2_with (at_builtin; refine Kd.R_append_zeros byte (w0 := w) (W := w) w.heap.size rfl (.tmp 20) (.tmp 21) 34 3 5 (.int .u8 0) 1 rfl Try.underlying34 Try.underlying3 info5 rfl (by decide) (by decide) (.slice none 0 0) [] (0 : UInt8) (kx := .i64) (n : Int) (fun _ => True) rfl rfl rfl (fun _ _ => trivial) (Kd.R_nil _ _ _ _ _) (by omega) (Below.refl _ _) (Nat.le_refl _) (by simp; omega) ?_)
    intro v w1 hR hb hg hat
    obtain ⟨g, cap, rfl, hgb, hgl, _⟩ := Kd.R_form hR (by simp; omega)
    have hle := (Kd.R_reads' hR).2.1
    have HR := Lib.hid (show Mine w w1 (.slice (some ⟨g, 0, none⟩) 0 cap) [] from by have := Kd.R_take hR (m := 0) (Nat.zero_le _); rwa [List.take_zero] at this)
    clear hR hat hg
    go_wp2_with fail
    go_ret
    exact ⟨_, rfl, HR.out, hb⟩
theorem flatten_le {xss : List (List UInt8)} (k : Nat) : (xss.take k).flatten.length ≤ xss.flatten.length := by
  have h : (xss.take k ++ xss.drop k).flatten.length = xss.flatten.length := by rw [List.take_append_drop]
  rw [List.flatten_append, List.length_append] at h
  omega
theorem flatten_snoc {xss : List (List UInt8)} {k : Nat} {xs : List UInt8} (h : xss[k]? = some xs) : (xss.take (k + 1)).flatten = (xss.take k).flatten ++ xs := by
  rw [List.take_add_one, h, List.flatten_append]
  simp
set_option maxHeartbeats 800000 in
theorem concat_any (A : Option Addr) (c : Nat) (xss : List (List UInt8)) (w : World) (hA : bytes.C w A xss.length xss) (hl : xss.flatten.length ≤ 1000000000000) :
    Calls Try.prog 43 #[.slice A xss.length c] w fun e w' => ∃ v, e = .returned v ∧ Mine w w' v xss.flatten ∧ In w w' := by
  obtain ⟨_, hmax⟩ := row_len hA
  go_enter Try.func43, Try.ntmps43
  go_wp2_with fail
  go_loop [3, 5, 11] (fun s _ i => ∃ k : Nat, k ≤ xss.length ∧ i = .int .i64 k ∧ s = .int .i64 (xss.take k).flatten.length) (fun _ _ i => xss.length - (intOf i).toNat)
  case atStart => exact ⟨0, by omega, rfl, rfl⟩
  case round =>
    obtain ⟨k, hk, rfl, rfl⟩ := hrel
    have hfl := flatten_le (xss := xss) k
    by_cases hlt : k < xss.length
    · obtain ⟨ad, A', c', xs, rfl, hx, hcell, hle, hC⟩ := row_at hA hlt
      have HS := Lib.hid (show (xss.take (k + 1)).flatten.length = (xss.take k).flatten.length + xs.length by rw [flatten_snoc hx, List.length_append])
      have hfl2 := flatten_le (xss := xss) (k + 1)
      rw [HS.out] at hfl2
      clear hx
      generalize (xss.take k).flatten.length = q at *
      go_wp2_with fail
      go_round
      case rel => exact ⟨k + 1, by omega, by go_num, by rw [HS.out]; go_num⟩
      case measure => simp [intOf]; omega
    · obtain rfl : k = xss.length := by omega
      rw [List.take_length]
      clear hfl
      obtain ⟨N, hN⟩ : ∃ N, N = xss.flatten.length := ⟨_, rfl⟩
      rw [← hN]
      have HN := Lib.hid hN
      have hl2 : N ≤ 1000000000000 := by rw [hN]; exact hl
      have HL := Lib.hid hl
      clear hN hl
      go_wp2_with fail
      refine (grow_any N _ hl2).mono ?_
      rintro e w1 ⟨v, rfl, hv, hin⟩
      have HV := Lib.hid hv
      clear hv
      go_wp2_with fail
      go_loopw [6, 8, 27] (fun v _ i wr => ∃ k : Nat, k ≤ xss.length ∧ i = .int .i64 k ∧ Mine w wr v (xss.take k).flatten ∧ In w wr) (fun _ _ i _ => xss.length - (intOf i).toNat)
      case atStart => exact ⟨0, by omega, rfl, HV.out, hin⟩
      case round =>
        clear hin HV
        obtain ⟨k, hk, rfl, hm, hin⟩ := hrel
        have HM := Lib.hid hm
        clear hm
        by_cases hlt : k < xss.length
        · obtain ⟨ad, A', c', xs, rfl, hx, hcell0, hle, hC⟩ := row_at hA hlt
          have hcell := pw_cell_below hin hcell0
          clear hcell0
          have HS := Lib.hid (flatten_snoc hx)
          have hfl2 := Nat.le_trans (flatten_le (xss := xss) (k + 1)) HL.out
          rw [HS.out, List.length_append] at hfl2
          clear hx
          have HR := Lib.hid (byte_reads (Kd.C_below hC hin))
          generalize (xss.take k).flatten = q at *
          go_wp2_with (at_builtin; refine print_append_row_of encB (0 : UInt8) (w0 := w) w.heap.size rfl (.tmp 31) (.tmp 32) 34 5 (.int .u8 0) 1 rfl Try.underlying34 info5 rfl (by decide) (fun _ => rfl) _ q xs A' xs.length c' rfl rfl HM.out.own HR.out hin hin.size (by omega) ?_)
          intro v2 w2 ho2 hb2 hg2 hat2
          go_wp2_with fail
          go_roundw
          case rel => exact ⟨k + 1, by omega, by go_num, by rw [HS.out]; exact Mine.of_own2 ho2 (by rw [List.length_append]), hb2⟩
          case measure => simp [intOf]; omega
        · obtain rfl : k = xss.length := by omega
          rw [List.take_length] at HM
          obtain ⟨A2, c2, rfl, _⟩ := HM.out.reads
          go_wp2_with fail
          go_ret
          exact ⟨_, rfl, HM.out, hin⟩
/-- A row that is nil, or not. -/
theorem byte_none {w : World} {n : Nat} {xs : List UInt8} (h : byte.C w none n xs) : xs = [] := by
  cases xs with
  | nil => rfl
  | cons x xs =>
    obtain ⟨h1, h2, h3⟩ := h
    obtain ⟨ad, h4, _⟩ := h3 (by rw [← h1]; simp)
    cases h4
theorem empty_mine (W : World) : (W.alloc (.cells #[] 5)).ownsRow W.heap.size 5 1 (.slice (some ⟨W.heap.size, 0, none⟩) 0 0) ([] : List UInt8).length (encs encB []) :=
  own_lit_of (enc := encB) W W.heap.size 5 [] (Nat.le_refl _) (by simp)
set_option maxHeartbeats 400000 in
theorem clone_any {A : Option Addr} {n c : Nat} {xs : List UInt8} {w : World} (hA : byte.C w A n xs) (hl : n ≤ 1000000000000) :
    Calls Try.prog 53 #[.slice A n c] w fun e w' => ∃ v, e = .returned v ∧ Mine w w' v xs ∧ In w w' := by
  obtain rfl := hA.1
  have q : ∀ (w : World) (a : Option Addr) (n c n' c' : Nat), (binOp .eql 34 (.slice a n c) (.slice none n' c')).run Try.prog w = .ok (.bool a.isNone) w := fun w a n c n' c' => Lib.run_eql_slice_nil w _ _ a n c n' c' Try.underlying34
  cases A with
  | none =>
    obtain rfl := byte_none hA
    clear hA
    go_enter Try.func53, Try.ntmps53
    go_wp2_with fail
    go_ret
    exact ⟨_, rfl, Mine.nil _ _, In.refl _⟩
  | some ad =>
    have HR := Lib.hid (byte_reads hA)
    clear hA
    go_enter Try.func53, Try.ntmps53
    have HO0 := Lib.hid (empty_mine w)
    have hb0 := (Below.refl w.heap.size w).alloc (Nat.le_refl _) (.cells #[] 5)
    have HR1 := Lib.hid (HR.out.below hb0)
    go_wp2_with (at_builtin; refine print_append_row_of encB (0 : UInt8) w.heap.size rfl (.tmp 5) (.tmp 6) 34 5 (.int .u8 0) 1 rfl Try.underlying34 info5 rfl (by decide) (fun _ => rfl) _ [] xs (some ad) xs.length c rfl rfl HO0.out HR1.out hb0 hb0.size (by simp; omega) ?_)
    intro v w1 ho hb hg hat
    go_wp2_with fail
    go_ret
    exact ⟨_, rfl, Mine.of_own ho, hb⟩
end Go.Proofs.Ytkoofoglcheonaa
