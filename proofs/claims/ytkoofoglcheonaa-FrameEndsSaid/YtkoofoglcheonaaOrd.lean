/- For regions that draw their order: worlds that go on from a world, and the sums' contracts by the cells of the rows that are laid. -/
import Derived.Test.YtkoofoglcheonaaLawA
import Derived.Deep.RegionHeld3
namespace Go.Proofs.Ytkoofoglcheonaa
set_option linter.unusedVariables false
set_option linter.unusedSimpArgs false
open Go.RowKit Go.Proofs.YtkoofoglcheonaaW.PrintWords

/-- w' goes on from W: nothing of W's has turned. -/
def In (W w' : World) : Prop := Below W.heap.size W w'
theorem In.refl (W : World) : In W W := Below.refl _ _
theorem In.drew {W w : World} (h : In W w) : In W w.drew := Below.drew h
theorem In.alloc {W w : World} (h : In W w) (o : Obj) : In W (w.alloc o) := Below.alloc h h.size o
theorem In.next {W w w1 : World} (h : In W w) (hb : Below w.heap.size w w1) : In W w1 := below_then h h.size hb
theorem In.trans {W w w1 : World} (h : In W w) (k : In w w1) : In W w1 := below_then h h.size k
theorem In.out {W w : World} (h : In W w) : Below W.heap.size W w := h
theorem In.cell {W w : World} {a : Addr} {v : Value} (hc : W.cell? a = some v) (h : In W w) : w.cell? a = some v := pw_cell_below h hc

theorem more1 {s g : Nat} {A : Option Addr} {c : Nat} {xs : List UInt8} {W : World} (hs : s < 4294967296) (h : W.cell? ⟨g, 0, none⟩ = some (.slice A xs.length c)) (hle : xs.length ≤ c) (hC : byte.C W A xs.length xs) :
    Calls Try.prog 16 #[.int .u32 s, .slice (some ⟨g, 0, none⟩) 1 1] W fun e w' => e = .returned (.int .u32 (Crc.more s xs : Nat)) ∧ Below W.heap.size W w' := by
  have := more_any s _ 1 1 [xs] W hs (row_cell1 h hle hC)
  simpa only [List.flatten_cons, List.flatten_nil, List.append_nil] using this
theorem rmore1 {s g : Nat} {A : Option Addr} {c : Nat} {xs : List UInt8} {W : World} (hs : s < 4294967296) (h : W.cell? ⟨g, 0, none⟩ = some (.slice A xs.length c)) (hle : xs.length ≤ c) (hC : byte.C W A xs.length xs) :
    Calls Try.prog 17 #[.int .u32 s, .slice (some ⟨g, 0, none⟩) 1 1] W fun e w' => e = .returned (.int .u32 (Crc.more s xs : Nat)) ∧ Below W.heap.size W w' := by
  have := rmore_any s _ 1 1 [xs] W hs (row_cell1 h hle hC)
  simp only [List.flatten_cons, List.flatten_nil, List.append_nil] at this
  exact this.mono fun e w' h => ⟨h.1, by rw [← h.2]; exact Below.refl _ _⟩
theorem more3 {s g : Nat} {A B D : Option Addr} {c d e : Nat} {xs ys zs : List UInt8} {W : World} (hs : s < 4294967296) (h : W.cell? ⟨g, 0, none⟩ = some (.slice A xs.length c)) (h2 : W.cell? ⟨g, 1, none⟩ = some (.slice B ys.length d)) (h3 : W.cell? ⟨g, 2, none⟩ = some (.slice D zs.length e))
    (hle : xs.length ≤ c) (hle2 : ys.length ≤ d) (hle3 : zs.length ≤ e) (hC : byte.C W A xs.length xs) (hC2 : byte.C W B ys.length ys) (hC3 : byte.C W D zs.length zs) :
    Calls Try.prog 16 #[.int .u32 s, .slice (some ⟨g, 0, none⟩) 3 3] W fun e w' => e = .returned (.int .u32 (Crc.more s (xs ++ (ys ++ zs)) : Nat)) ∧ Below W.heap.size W w' := by
  have := more_any s _ 3 3 [xs, ys, zs] W hs (row_cell3 h h2 h3 hle hle2 hle3 hC hC2 hC3)
  simpa only [List.flatten_cons, List.flatten_nil, List.append_nil] using this
theorem rmore2 {s g : Nat} {A B : Option Addr} {c d : Nat} {xs ys : List UInt8} {W : World} (hs : s < 4294967296) (h : W.cell? ⟨g, 0, none⟩ = some (.slice A xs.length c)) (h2 : W.cell? ⟨g, 1, none⟩ = some (.slice B ys.length d)) (hle : xs.length ≤ c) (hle2 : ys.length ≤ d)
    (hC : byte.C W A xs.length xs) (hC2 : byte.C W B ys.length ys) :
    Calls Try.prog 17 #[.int .u32 s, .slice (some ⟨g, 0, none⟩) 2 2] W fun e w' => e = .returned (.int .u32 (Crc.more s (xs ++ ys) : Nat)) ∧ Below W.heap.size W w' := by
  have := rmore_any s _ 2 2 [xs, ys] W hs (row_cell2 h h2 hle hle2 hC hC2)
  simp only [List.flatten_cons, List.flatten_nil, List.append_nil] at this
  exact this.mono fun e w' h => ⟨h.1, by rw [← h.2]; exact Below.refl _ _⟩
theorem sum1 {g : Nat} {A : Option Addr} {c : Nat} {xs : List UInt8} {W : World} (h : W.cell? ⟨g, 0, none⟩ = some (.slice A xs.length c)) (hle : xs.length ≤ c) (hC : byte.C W A xs.length xs) :
    Calls Try.prog 14 #[.slice (some ⟨g, 0, none⟩) 1 1] W fun e w' => e = .returned (.int .u32 (Crc.sum xs : Nat)) ∧ Below W.heap.size W w' := by
  have := sum_any _ 1 1 [xs] W (row_cell1 h hle hC)
  simpa only [List.flatten_cons, List.flatten_nil, List.append_nil] using this
theorem sum2 {g : Nat} {A B : Option Addr} {c d : Nat} {xs ys : List UInt8} {W : World} (h : W.cell? ⟨g, 0, none⟩ = some (.slice A xs.length c)) (h2 : W.cell? ⟨g, 1, none⟩ = some (.slice B ys.length d)) (hle : xs.length ≤ c) (hle2 : ys.length ≤ d)
    (hC : byte.C W A xs.length xs) (hC2 : byte.C W B ys.length ys) :
    Calls Try.prog 14 #[.slice (some ⟨g, 0, none⟩) 2 2] W fun e w' => e = .returned (.int .u32 (Crc.sum (xs ++ ys) : Nat)) ∧ Below W.heap.size W w' := by
  have := sum_any _ 2 2 [xs, ys] W (row_cell2 h h2 hle hle2 hC hC2)
  simpa only [List.flatten_cons, List.flatten_nil, List.append_nil] using this
theorem sum3 {g : Nat} {A B D : Option Addr} {c d e : Nat} {xs ys zs : List UInt8} {W : World} (h : W.cell? ⟨g, 0, none⟩ = some (.slice A xs.length c)) (h2 : W.cell? ⟨g, 1, none⟩ = some (.slice B ys.length d)) (h3 : W.cell? ⟨g, 2, none⟩ = some (.slice D zs.length e))
    (hle : xs.length ≤ c) (hle2 : ys.length ≤ d) (hle3 : zs.length ≤ e) (hC : byte.C W A xs.length xs) (hC2 : byte.C W B ys.length ys) (hC3 : byte.C W D zs.length zs) :
    Calls Try.prog 14 #[.slice (some ⟨g, 0, none⟩) 3 3] W fun e w' => e = .returned (.int .u32 (Crc.sum (xs ++ (ys ++ zs)) : Nat)) ∧ Below W.heap.size W w' := by
  have := sum_any _ 3 3 [xs, ys, zs] W (row_cell3 h h2 h3 hle hle2 hle3 hC hC2 hC3)
  simpa only [List.flatten_cons, List.flatten_nil, List.append_nil] using this
/-- A cell of a row that leads to bytes. -/
def RC (W : World) (g i : Nat) (xs : List UInt8) : Prop := ∃ A n c, W.cell? ⟨g, i, none⟩ = some (.slice A n c) ∧ n ≤ c ∧ byte.C W A n xs
theorem RC.mk {W : World} {g i : Nat} {xs : List UInt8} (A : Option Addr) (n c : Nat) (h : W.cell? ⟨g, i, none⟩ = some (.slice A n c)) (hle : n ≤ c) (hC : byte.C W A n xs) : RC W g i xs := ⟨A, n, c, h, hle, hC⟩
theorem RC.nil {W : World} {g i : Nat} (h : W.cell? ⟨g, i, none⟩ = some (.slice none 0 0)) : RC W g i [] := ⟨none, 0, 0, h, Nat.le_refl _, byte_nil _⟩
theorem rc1 {W : World} {g : Nat} {xs : List UInt8} (h : RC W g 0 xs) : bytes.C W (some ⟨g, 0, none⟩) 1 [xs] := by
  obtain ⟨A, n, c, h, hle, hC⟩ := h
  obtain rfl := hC.1
  exact row_cell1 h hle hC
theorem rc2 {W : World} {g : Nat} {xs ys : List UInt8} (h : RC W g 0 xs) (h2 : RC W g 1 ys) : bytes.C W (some ⟨g, 0, none⟩) 2 [xs, ys] := by
  obtain ⟨A, n, c, h, hle, hC⟩ := h
  obtain ⟨A2, n2, c2, h2, hle2, hC2⟩ := h2
  obtain rfl := hC.1
  obtain rfl := hC2.1
  exact row_cell2 h h2 hle hle2 hC hC2
theorem rc3 {W : World} {g : Nat} {xs ys zs : List UInt8} (h : RC W g 0 xs) (h2 : RC W g 1 ys) (h3 : RC W g 2 zs) : bytes.C W (some ⟨g, 0, none⟩) 3 [xs, ys, zs] := by
  obtain ⟨A, n, c, h, hle, hC⟩ := h
  obtain ⟨A2, n2, c2, h2, hle2, hC2⟩ := h2
  obtain ⟨A3, n3, c3, h3, hle3, hC3⟩ := h3
  obtain rfl := hC.1
  obtain rfl := hC2.1
  obtain rfl := hC3.1
  exact row_cell3 h h2 h3 hle hle2 hle3 hC hC2 hC3
theorem moreNil {s : Nat} {W : World} (hs : s < 4294967296) : Calls Try.prog 16 #[.int .u32 s, .slice none 0 0] W fun e w' => e = .returned (.int .u32 s) ∧ Below W.heap.size W w' := by
  have := more_any s none 0 0 [] W hs (row_nil _ _)
  rw [show ([] : List (List UInt8)).flatten = [] from rfl, Crc.more_nil] at this
  exact this
theorem moreQ {s S : Nat} {A : Option Addr} {c : Nat} {ys : List UInt8} {W : World} (hs : s < 4294967296) (h : Crc.more s ys = S) (hA : bytes.C W A 1 [ys]) : Calls Try.prog 16 #[.int .u32 s, .slice A 1 c] W fun e w' => e = .returned (.int .u32 S) ∧ Below W.heap.size W w' := by
  have := more_any s A 1 c [ys] W hs hA
  simp only [List.flatten_cons, List.flatten_nil, List.append_nil] at this
  rw [h] at this
  exact this
theorem empty_cut {W : World} (base : Nat) (hb : base ≤ W.heap.size) : (W.alloc (.cells #[] 5)).ownsRow base 5 1 (.slice (some ⟨W.heap.size, 0, none⟩) 0 0) ([] : List UInt8).length (encs encB []) :=
  own_lit_of (enc := encB) W base 5 [] hb (by simp)

theorem pick_k (x : Int) (n k : Nat) (hk : pickI x n = k) (m : Int) (hm : m = n) (w : World) (hn : n ≤ 1000000000) :
    Calls Try.prog 21 #[.int .i64 x, .int .i64 m] w fun e w' => e = .returned (.int .i64 k) ∧ w = w' := by
  subst hm
  rw [← hk]
  exact pick_any x n w hn
theorem info5s : ∃ i, Try.prog.info? 5 = some i ∧ i.size = 1 := by
  obtain ⟨i0, hi, hz0, hz1, hz2⟩ := info_parts info5
  exact ⟨i0, hi, hz1⟩
theorem In.set {W w : World} (h : In W w) {g : Nat} (hg : W.heap.size ≤ g) (o : Nat) (v : Value) : In W (w.setCell ⟨g, o, none⟩ v) := Below.setCell (p := ⟨g, o, none⟩) h hg v
theorem In.size {W w : World} (h : In W w) : W.heap.size ≤ w.heap.size := Below.size h
end Go.Proofs.Ytkoofoglcheonaa
