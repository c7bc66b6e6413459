/- Rows of numbers, copied: slices.Clone and the reference's copies. -/
import Derived.Test.YtgpnfgjmdehfdaaCountC
import Derived.Lib.SliceRun
namespace Go.Proofs.Ytgpnfgjmdehfdaa
set_option linter.unusedVariables false
set_option linter.unusedSimpArgs false
open Go.RowKit Go.Proofs.YtgpnfgjmdehfdaaW.PrintWords

theorem info3 : (Try.prog.info? 3).map (fun i => (i.zero, i.size, i.bytes)) = some (some (.int .i64 0), 1, 8) := by kernel_rfl
theorem info5 : (Try.prog.info? 5).map (fun i => (i.zero, i.size, i.bytes)) = some (some (.int .u8 0), 1, 1) := by kernel_rfl
/-- A row of numbers that was made since W. -/
def Made (k : IntKind) (e : TypeId) (W w : World) (v : Value) (xs : List Int) : Prop := (Kd.int k).R e w W.heap.size (fun _ => True) v xs
theorem Made.nil (k : IntKind) (e : TypeId) (W w : World) : Made k e W w (.slice none 0 0) [] := Kd.R_nil _ _ _ _ _
theorem Made.below {k : IntKind} {e : TypeId} {W w w1 : World} {v : Value} {xs : List Int} (h : Made k e W w v xs) (hb : In w w1) : Made k e W w1 v xs := Kd.R_below h hb
theorem Made.lower {k : IntKind} {e : TypeId} {W W0 w : World} {v : Value} {xs : List Int} (h : Made k e W w v xs) (hb : In W0 W) : Made k e W0 w v xs := Kd.R_lower h hb.size
theorem Made.okd {k : IntKind} {e : TypeId} {W W0 w : World} {v : Value} {xs : List Int} (h : Made k e W w v xs) (hb : In W0 W) {base : Nat} (hbase : base ≤ W0.heap.size) : (Kd.int k).R e w base (fun q => W0.heap.size ≤ q) v xs :=
  Kd.R_lower (Kd.R_mono (Kd.R_bound h) (fun q hq => Nat.le_trans hb.size hq.2.1)) (Nat.le_trans hbase hb.size)
theorem Made.far {k : IntKind} {e : TypeId} {W w : World} {v : Value} {xs : List Int} (h : Made k e W w v xs) {g t : Nat} {cells : Array Value} (hb : w.heap[g]? = some (.cells cells t (0, 0))) (ht : e ≠ t) {w1 : World} (hm : ∀ i, i ≠ g → w1.heap[i]? = w.heap[i]?) : Made k e W w1 v xs :=
  Kd.R_mono (Kd.R_step (Kd.R_types h hb (fun q hq => by
    have : q = e := by simpa [Kd.int, Kd.scalar] using hq
    rw [this]
    exact ht)) (fun k ho _ => hm k ho.2)) (fun _ _ => trivial)
theorem empty_num (k : IntKind) (e : TypeId) {W : World} (base : Nat) (hb : base ≤ W.heap.size) : (W.alloc (.cells #[] e)).ownsRow base e 1 (.slice (some ⟨W.heap.size, 0, none⟩) 0 0) ([] : List Int).length (encs (Value.int k) []) :=
  own_lit_of (enc := Value.int k) W base e [] hb (by simp)
set_option maxRecDepth 100000 in
set_option maxHeartbeats 400000 in
theorem cloneInts_any {A : Option Addr} {c : Nat} {xs : List Int} {w : World} (hA : ints.C w A xs.length xs) (hl : xs.length ≤ 1000000000) :
    Calls Try.prog 88 #[.slice A xs.length c] w fun e w' => ∃ v, e = .returned v ∧ Made .i64 3 w w' v xs ∧ In w w' := by
  cases A with
  | none =>
    obtain rfl : xs = [] := by
      cases xs with
      | nil => rfl
      | cons x xs => obtain ⟨h1, h2, h3⟩ := hA; obtain ⟨ad, h4, _⟩ := h3 (by simp); cases h4
    clear hA
    have q : ∀ (w : World) (a : Option Addr) (n c n' c' : Nat), (binOp .eql 23 (.slice a n c) (.slice none n' c')).run Try.prog w = .ok (.bool a.isNone) w := fun w a n c n' c' => Lib.run_eql_slice_nil w _ _ a n c n' c' Try.underlying23
    go_enter Try.func88, Try.ntmps88
    go_wp2_with fail
    go_ret
    exact ⟨_, rfl, Made.nil _ _ _ _, In.refl _⟩
  | some ad =>
    have HR := Lib.hid (Kd.reads_of_C (d := (0 : Int)) hA)
    clear hA
    have q : ∀ (w : World) (a : Option Addr) (n c n' c' : Nat), (binOp .eql 23 (.slice a n c) (.slice none n' c')).run Try.prog w = .ok (.bool a.isNone) w := fun w a n c n' c' => Lib.run_eql_slice_nil w _ _ a n c n' c' Try.underlying23
    go_enter Try.func88, Try.ntmps88
    have HO0 := Lib.hid (empty_num .i64 3 (W := w) w.heap.size (Nat.le_refl _))
    have hb0 := (Below.refl w.heap.size w).alloc (Nat.le_refl _) (.cells #[] 3)
    have HR1 := Lib.hid (HR.out.below hb0)
    go_wp2_with (at_builtin; refine print_append_row_of (Value.int .i64) (0 : Int) w.heap.size rfl (.tmp 5) (.tmp 6) 23 3 (.int .i64 0) 8 rfl Try.underlying23 info3 rfl (by decide) (fun _ => rfl) _ [] xs (some ad) xs.length c rfl rfl HO0.out HR1.out hb0 hb0.size (by simp; omega) ?_)
    intro v w1 ho hb hg hat
    have HO := Lib.hid (Kd.R_of_own (h1 := fun _ => rfl) (ok := fun _ => True) ho (fun _ _ => trivial))
    clear ho hg hat
    go_wp2_with fail
    go_ret
    exact ⟨_, rfl, HO.out, hb⟩
set_option maxRecDepth 100000 in
set_option maxHeartbeats 400000 in
theorem cloneBytes_any {A : Option Addr} {c : Nat} {xs : List Int} {w : World} (hA : bys.C w A xs.length xs) (hl : xs.length ≤ 1000000000) :
    Calls Try.prog 65 #[.slice A xs.length c] w fun e w' => ∃ v, e = .returned v ∧ Made .u8 5 w w' v xs ∧ In w w' := by
  cases A with
  | none =>
    obtain rfl : xs = [] := by
      cases xs with
      | nil => rfl
      | cons x xs => obtain ⟨h1, h2, h3⟩ := hA; obtain ⟨ad, h4, _⟩ := h3 (by simp); cases h4
    clear hA
    have q : ∀ (w : World) (a : Option Addr) (n c n' c' : Nat), (binOp .eql 43 (.slice a n c) (.slice none n' c')).run Try.prog w = .ok (.bool a.isNone) w := fun w a n c n' c' => Lib.run_eql_slice_nil w _ _ a n c n' c' Try.underlying43
    go_enter Try.func65, Try.ntmps65
    go_wp2_with fail
    go_ret
    exact ⟨_, rfl, Made.nil _ _ _ _, In.refl _⟩
  | some ad =>
    have HR := Lib.hid (Kd.reads_of_C (d := (0 : Int)) hA)
    clear hA
    have q : ∀ (w : World) (a : Option Addr) (n c n' c' : Nat), (binOp .eql 43 (.slice a n c) (.slice none n' c')).run Try.prog w = .ok (.bool a.isNone) w := fun w a n c n' c' => Lib.run_eql_slice_nil w _ _ a n c n' c' Try.underlying43
    go_enter Try.func65, Try.ntmps65
    have HO0 := Lib.hid (empty_num .u8 5 (W := w) w.heap.size (Nat.le_refl _))
    have hb0 := (Below.refl w.heap.size w).alloc (Nat.le_refl _) (.cells #[] 5)
    have HR1 := Lib.hid (HR.out.below hb0)
    go_wp2_with (at_builtin; refine print_append_row_of (Value.int .u8) (0 : Int) w.heap.size rfl (.tmp 5) (.tmp 6) 43 5 (.int .u8 0) 1 rfl Try.underlying43 info5 rfl (by decide) (fun _ => rfl) _ [] xs (some ad) xs.length c rfl rfl HO0.out HR1.out hb0 hb0.size (by simp; omega) ?_)
    intro v w1 ho hb hg hat
    have HO := Lib.hid (Kd.R_of_own (h1 := fun _ => rfl) (ok := fun _ => True) ho (fun _ _ => trivial))
    clear ho hg hat
    go_wp2_with fail
    go_ret
    exact ⟨_, rfl, HO.out, hb⟩
end Go.Proofs.Ytgpnfgjmdehfdaa
