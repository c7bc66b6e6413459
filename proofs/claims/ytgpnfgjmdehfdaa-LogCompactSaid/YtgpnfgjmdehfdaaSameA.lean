/- Alike rows are found alike: the walks of SameInts, SameBytes. -/
import Derived.Test.YtgpnfgjmdehfdaaKinds
import Derived.Deep.MidRow
namespace Go.Proofs.Ytgpnfgjmdehfdaa
set_option linter.unusedVariables false
set_option linter.unusedSimpArgs false
open Go.RowKit Go.Proofs.YtgpnfgjmdehfdaaW.PrintWords

/-- w' goes on from W: nothing of W's has turned. -/
def In (W w' : World) : Prop := Below W.heap.size W w'
theorem In.refl (W : World) : In W W := Below.refl _ _
theorem In.drew {W w : World} (h : In W w) : In W w.drew := Below.drew h
theorem In.drewN {W w : World} (h : In W w) (n : Nat) : In W (w.drewN n) := pw_below_drewN h n
theorem In.drawn {W w w1 : World} (h : In W w) (hd : Drawn0 w w1) : In W w1 := by obtain ⟨n, rfl⟩ := hd; exact In.drewN h n
theorem In.alloc {W w : World} (h : In W w) (o : Obj) : In W (w.alloc o) := Below.alloc h h.size o
theorem In.next {W w w1 : World} (h : In W w) (hb : Below w.heap.size w w1) : In W w1 := below_then h h.size hb
theorem In.trans {W w w1 : World} (h : In W w) (k : In w w1) : In W w1 := below_then h h.size k
theorem In.out {W w : World} (h : In W w) : Below W.heap.size W w := h
theorem In.size {W w : World} (h : In W w) : W.heap.size ≤ w.heap.size := Below.size h
theorem In.cell {W w : World} {a : Addr} {v : Value} (hc : W.cell? a = some v) (h : In W w) : w.cell? a = some v := pw_cell_below h hc
theorem In.cells {W : World} {a : Addr} {v : Value} (hc : W.cell? a = some v) : ∀ w, In W w → w.cell? a = some v := fun w h => pw_cell_below h hc
theorem bcell {W w1 : World} (hb : Below W.heap.size W w1) : (∀ b o, b < W.heap.size → w1.cell? ⟨b, o, none⟩ = W.cell? ⟨b, o, none⟩) ∧ (∀ b o, b < W.heap.size → w1.frozen? ⟨b, o, none⟩ = W.frozen? ⟨b, o, none⟩) :=
  ⟨fun b o h => hb.cell (p := ⟨b, o, none⟩) h, fun b o h => hb.frozen (p := ⟨b, o, none⟩) h⟩
theorem In.set {W w : World} (h : In W w) {g : Nat} (hg : W.heap.size ≤ g) (o : Nat) (v : Value) : In W (w.setCell ⟨g, o, none⟩ v) := Below.setCell (p := ⟨g, o, none⟩) h hg v
theorem In.kept {W w : World} (h : In W w) (S : Nat → Prop) : Kept W w S := Kept.of_below h S
theorem box_cells (w : World) (cs : List Value) (t : TypeId) : ∀ w', In (w.alloc (.cells cs.toArray t)) w' → ∀ i, w'.cell? ⟨w.heap.size, i, none⟩ = cs[i]? := fun w' h i => by
  rw [(bcell h).1 w.heap.size i (by simp), blk_cell (blk_new w _) i, List.getElem?_toArray]
theorem add_add (p : Addr) (m i : Nat) : (p.add m).add i = p.add (m + i) := by
  unfold Addr.add
  by_cases h1 : m = 0
  · subst h1; simp
  · by_cases h2 : i = 0
    · subst h2; simp
    · have h3 : m + i ≠ 0 := by omega
      simp [h1, h2, h3, Nat.add_assoc]
/-- The cells of a thing from a place on. -/
def CellsAt (w : World) (p : Addr) (cs : List Value) : Prop := ∀ (i : Nat) (v : Value), cs[i]? = some v → w.cell? (p.add i) = some v
theorem CellsAt.below {w w1 : World} {p : Addr} {cs : List Value} (h : CellsAt w p cs) (hb : In w w1) : CellsAt w1 p cs := fun i v hv => In.cell (h i v hv) hb
theorem row_get {α : Type} {d : Kd α} {w : World} {A : Option Addr} {n : Nat} {xs : List α} (h : d.C w A n xs) {j : Nat} (hj : j < n) :
    ∃ ad x cs, A = some ad ∧ xs[j]? = some x ∧ d.K w x cs ∧ cs.length = d.sz ∧ CellsAt w (ad.add (j * d.sz)) cs := by
  obtain ⟨h1, h2, h3⟩ := h
  obtain ⟨ad, rfl, hc⟩ := h3 (by omega)
  have hl : j < xs.length := by omega
  obtain ⟨c, hlen, hr, hcell⟩ := hc j _ (List.getElem?_eq_getElem hl)
  exact ⟨ad, xs[j], c, rfl, List.getElem?_eq_getElem hl, hr, hlen, fun i v hv => by rw [add_add]; exact hcell i v hv⟩
section
variable {P : Program}
theorem run_loadVar_any (w : World) (p : Addr) (ty : TypeId) (cs : List Value) (d : TypeDesc) (hc : CellsAt w p cs)
    (hu : P.underlying ty = some d) (hd : d.isRow = true) (hi : (P.info? ty).map (·.size) = some cs.length) : (loadVar ty p).run P w = .ok (.agg cs.toArray) w := by
  have hl : (loadCells p cs.length).run P w = .ok cs.toArray w := run_loadCells_list (P := P) w p cs hc
  cases hq : P.info? ty with
  | none => simp [hq] at hi
  | some i =>
    have hs : i.size = cs.length := by simpa [hq] using hi
    have hagg : (isAgg ty).run P w = .ok true w := by
      unfold isAgg
      rw [Sem.run_bind, run_underlying hu w]
      cases d <;> simp_all
    simp [loadVar, Sem.run_bind, hagg, sizeOf, typeInfo, hq, hs, hl]
theorem wpList_load_any {ops : Array Oper} {rest : List Oper} {op : Oper} {a : Act} {w : World} {Q : Exit → Act → World → Prop} (hgd : op.guard = none) (ty : TypeId) (x : Operand) (ho : op.op = .load ty x)
    (p : Addr) (hx : a.eval x = .pointer (some p)) (cs : List Value) (d : TypeDesc) (hc : CellsAt w p cs)
    (hu : P.underlying ty = some d) (hd : d.isRow = true) (hi : (P.info? ty).map (·.size) = some cs.length)
    (h : wpList P ops Q rest (a.put op.dst (.agg cs.toArray)) w) : wpList P ops Q (op :: rest) a w :=
  wpList_plain hgd fun _ hK => by
    unfold Oper.wp execOp
    simp only [ho, hx, Instr.loadAt, Instr.sureAddr, Sem.run_bind, Sem.run_pure, Result.andThen_ok, run_loadVar_any w p ty cs d hc hu hd hi]
    exact hK _ _ h
end
abbrev ints : Kd Int := Kd.int .i64
abbrev bys : Kd Int := Kd.int .u8
/-- An element of a row of numbers. -/
theorem num_at {k : IntKind} {w : World} {A : Option Addr} {n : Nat} {xs : List Int} (h : (Kd.int k).C w A n xs) {j : Nat} (hj : j < n) :
    ∃ ad x, A = some ad ∧ xs[j]? = some x ∧ w.cell? (ad.add j) = some (.int k x) := by
  obtain ⟨h1, h2, h3⟩ := h
  obtain ⟨ad, rfl, hc⟩ := h3 (by omega)
  have hl : j < xs.length := by omega
  obtain ⟨c, hlen, hr, hcell⟩ := hc j _ (List.getElem?_eq_getElem hl)
  have hr' : c = [.int k xs[j]] := hr
  subst hr'
  refine ⟨ad, xs[j], rfl, List.getElem?_eq_getElem hl, ?_⟩
  have := hcell 0 _ rfl
  have h4 : w.cell? (ad.add j) = some (.int k xs[j]) := by simpa [Kd.int, Kd.scalar] using this
  exact h4
theorem num_len {k : IntKind} {w : World} {A : Option Addr} {n : Nat} {xs : List Int} (h : (Kd.int k).C w A n xs) : xs.length = n ∧ n ≤ 9223372036854775807 := ⟨h.1, h.2.1⟩
set_option maxHeartbeats 400000 in
theorem sameInts_any {A B : Option Addr} {c d : Nat} {xs : List Int} {w : World} (hA : ints.C w A xs.length xs) (hB : ints.C w B xs.length xs) :
    Calls Try.prog 57 #[.slice A xs.length c, .slice B xs.length d] w fun e w' => e = .returned (.bool true) ∧ Drawn0 w w' := by
  have hm := (num_len hA).2
  go_enter Try.func57, Try.ntmps57
  go_wp2_with fail
  go_loopw [5] (fun i wr => ∃ j : Nat, j ≤ xs.length ∧ i = .int .i64 j ∧ Drawn0 w wr) (fun i _ => xs.length - (intOf i).toNat)
  case atStart => exact ⟨0, by omega, rfl, Drawn0.refl _⟩
  case round =>
    obtain ⟨j, hj, rfl, ⟨m, rfl⟩⟩ := hrel
    by_cases hl : j < xs.length
    · obtain ⟨ad, x, rfl, hx, hc⟩ := num_at hA hl
      obtain ⟨ad2, x2, rfl, hx2, hc2⟩ := num_at hB hl
      obtain rfl : x = x2 := by rw [hx] at hx2; exact Option.some.inj hx2
      clear hx hx2
      go_wp2_with fail
      go_quiet (fail)
      go_wp2_with fail
      go_roundw
      case rel => exact ⟨j + 1, by omega, by go_num, ⟨_, rfl⟩⟩
      case measure => simp [intOf]; omega
    · obtain rfl : j = xs.length := by omega
      go_wp2_with fail
      go_ret
      exact ⟨rfl, ⟨_, rfl⟩⟩
set_option maxHeartbeats 400000 in
theorem sameBytes_any {A B : Option Addr} {c d : Nat} {xs : List Int} {w : World} (hA : bys.C w A xs.length xs) (hB : bys.C w B xs.length xs) :
    Calls Try.prog 69 #[.slice A xs.length c, .slice B xs.length d] w fun e w' => e = .returned (.bool true) ∧ Drawn0 w w' := by
  have hm := (num_len hA).2
  go_enter Try.func69, Try.ntmps69
  go_wp2_with fail
  go_loopw [5] (fun i wr => ∃ j : Nat, j ≤ xs.length ∧ i = .int .i64 j ∧ Drawn0 w wr) (fun i _ => xs.length - (intOf i).toNat)
  case atStart => exact ⟨0, by omega, rfl, Drawn0.refl _⟩
  case round =>
    obtain ⟨j, hj, rfl, ⟨m, rfl⟩⟩ := hrel
    by_cases hl : j < xs.length
    · obtain ⟨ad, x, rfl, hx, hc⟩ := num_at hA hl
      obtain ⟨ad2, x2, rfl, hx2, hc2⟩ := num_at hB hl
      obtain rfl : x = x2 := by rw [hx] at hx2; exact Option.some.inj hx2
      clear hx hx2
      go_wp2_with fail
      go_quiet (fail)
      go_wp2_with fail
      go_roundw
      case rel => exact ⟨j + 1, by omega, by go_num, ⟨_, rfl⟩⟩
      case measure => simp [intOf]; omega
    · obtain rfl : j = xs.length := by omega
      go_wp2_with fail
      go_ret
      exact ⟨rfl, ⟨_, rfl⟩⟩
end Go.Proofs.Ytgpnfgjmdehfdaa
