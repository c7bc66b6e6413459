/- The walk of SumBytes. -/
import Derived.Test.YtkoofoglcheonaaOrd
namespace Go.Proofs.Ytkoofoglcheonaa
set_option linter.unusedVariables false
set_option linter.unusedSimpArgs false
open Go.RowKit Go.Proofs.YtkoofoglcheonaaW.PrintWords

def someSums : List Nat := [0, 1, 2147483648, 4294967295, 3988292384, 3736805603]
def someCells : Array Value := (someSums.map fun s => Value.int .u32 ((s : Nat) : Int)).toArray
theorem someCells_at {k : Nat} (hk : k < 6) : ∃ s : Nat, s < 4294967296 ∧ someCells[k]? = some (.int .u32 (s : Int)) := by
  match k, hk with
  | 0, _ => exact ⟨0, by omega, rfl⟩
  | 1, _ => exact ⟨1, by omega, rfl⟩
  | 2, _ => exact ⟨2147483648, by omega, rfl⟩
  | 3, _ => exact ⟨4294967295, by omega, rfl⟩
  | 4, _ => exact ⟨3988292384, by omega, rfl⟩
  | 5, _ => exact ⟨3736805603, by omega, rfl⟩

/-- A byte alone; a byte twice, in two parts or with nothing between. -/
def rowsOf (x : UInt8) : Nat → List (List UInt8)
  | 1 => [[x]]
  | 2 => [[x], [x]]
  | _ => [[x], [], [x]]
def two (x : UInt8) : Nat → List UInt8
  | 1 => [x]
  | _ => [x, x]
theorem rowsOf_flatten (x : UInt8) (n : Nat) : (rowsOf x n).flatten = two x n := by
  match n with
  | 0 => rfl
  | 1 => rfl
  | 2 => rfl
  | n + 3 => rfl
theorem moreOf {s n c : Nat} {A : Option Addr} {x : UInt8} {W : World} (hs : s < 4294967296) (hA : bytes.C W A n (rowsOf x n)) :
    Calls Try.prog 16 #[.int .u32 s, .slice A n c] W fun e w' => e = .returned (.int .u32 (Crc.more s (two x n) : Nat)) ∧ Below W.heap.size W w' := by
  rw [← rowsOf_flatten]
  exact more_any s A n c _ W hs hA
theorem rmoreOf {s n c : Nat} {A : Option Addr} {x : UInt8} {W : World} (hs : s < 4294967296) (hA : bytes.C W A n (rowsOf x n)) :
    Calls Try.prog 17 #[.int .u32 s, .slice A n c] W fun e w' => e = .returned (.int .u32 (Crc.more s (two x n) : Nat)) ∧ Below W.heap.size W w' := by
  rw [← rowsOf_flatten]
  exact (rmore_any s A n c _ W hs hA).mono fun e w' h => ⟨h.1, by rw [← h.2]; exact Below.refl _ _⟩
theorem rowsOf_1 {W : World} {g : Nat} {A : Option Addr} {x : UInt8} (h : W.cell? ⟨g, 0, none⟩ = some (.slice A 1 1)) (hC : byte.C W A [x].length [x]) : bytes.C W (some ⟨g, 0, none⟩) 1 (rowsOf x 1) :=
  row_cell1 (xs := [x]) h (Nat.le_refl _) hC
theorem rowsOf_2 {W : World} {g : Nat} {A : Option Addr} {x : UInt8} (h : W.cell? ⟨g, 0, none⟩ = some (.slice A 1 1)) (h2 : W.cell? ⟨g, 1, none⟩ = some (.slice A 1 1)) (hC : byte.C W A [x].length [x]) : bytes.C W (some ⟨g, 0, none⟩) 2 (rowsOf x 2) :=
  row_cell2 (xs := [x]) (ys := [x]) h h2 (Nat.le_refl _) (Nat.le_refl _) hC hC
theorem rowsOf_3 {W : World} {g : Nat} {A : Option Addr} {x : UInt8} (h : W.cell? ⟨g, 0, none⟩ = some (.slice A 1 1)) (h2 : W.cell? ⟨g, 1, none⟩ = some (.slice none 0 0)) (h3 : W.cell? ⟨g, 2, none⟩ = some (.slice A 1 1)) (hC : byte.C W A [x].length [x]) : bytes.C W (some ⟨g, 0, none⟩) 3 (rowsOf x 3) :=
  row_cell3 (xs := [x]) (ys := []) (zs := [x]) h h2 h3 (Nat.le_refl _) (Nat.le_refl _) (Nat.le_refl _) hC (byte_nil _) hC

theorem equal_tab (w : World) : (Op.equalIn 10000 35 (.agg (tabCells 256)) (.agg (tabCells 256))).run Try.prog w = .ok true w := by kernel_rfl
set_option maxRecDepth 100000 in
set_option maxHeartbeats 1600000 in
theorem sumBytes_any (w : World) : Calls Try.prog 4 #[] w fun e w' => e = .returned (.bool true) ∧ Below w.heap.size w w' := by
  go_enter Try.func4, Try.ntmps4
  go_wp2_with fail
  go_loopw [2, 3, 4] (fun i _ _ wr => ∃ k : Nat, k ≤ 256 ∧ i = .int .i64 k ∧ wr.heap[w.heap.size]? = some (.cells someCells 23 (0, 0)) ∧ Below w.heap.size w wr) (fun i _ _ _ => 256 - (intOf i).toNat)
  case atStart => exact ⟨0, by omega, rfl, blk_new _ _, (Below.refl _ _).alloc (Nat.le_refl _) _⟩
  case round =>
    obtain ⟨k, hk, rfl, hb0, hbel⟩ := hrel
    by_cases hlt : k < 256
    · obtain ⟨x, rfl⟩ : ∃ x : UInt8, k = x.toNat := ⟨UInt8.ofNat k, by rw [UInt8.toNat_ofNat']; omega⟩
      have hdec : decide ((x.toNat : Int) < 256) = true := decide_eq_true (by omega)
      obtain ⟨wo, rfl⟩ : ∃ wo : World, wo = wr := ⟨_, rfl⟩
      have hx0 := byte_cell1 (W := wo.alloc (.cells #[.int .u8 (x.toNat : Int)] 5)) (g := wo.heap.size) (x := x) (by rw [blk_cell (blk_new _ _)]; rfl)
      have HX := Lib.hid hx0
      clear hx0
      have HB0 := Lib.hid hb0
      have hb00 := blk_lt hb0
      clear hb0
      go_wp2_with fail
      go_loopw [4] (fun i wr => ∃ j : Nat, j ≤ 6 ∧ i = .int .i64 j ∧ In (wo.alloc (.cells #[.int .u8 (x.toNat : Int)] 5)) wr) (fun i _ => 6 - (intOf i).toNat)
      case atStart => exact ⟨0, by omega, rfl, In.refl _⟩
      case round =>
        obtain ⟨j, hj, rfl, hin⟩ := hrel
        by_cases hjl : j < 6
        · have hdj : decide ((j : Int) < 6) = true := decide_eq_true (by omega)
          obtain ⟨s, hs, hcs⟩ := someCells_at hjl
          have hcs0 : wr.cell? ⟨w.heap.size, j, none⟩ = some (.int .u32 (s : Int)) := In.cell (by rw [blk_cell (blk_alloc HB0.out _)]; exact hcs) hin
          clear hcs
          have hC : byte.C wr (some ⟨wo.heap.size, 0, none⟩) [x].length [x] := Kd.C_below HX.out hin.out
          obtain ⟨wi, rfl⟩ : ∃ wi : World, wi = wr := ⟨_, rfl⟩
          have hcell : ∀ w' : World, In wi w' → w'.cell? ⟨w.heap.size, j, none⟩ = some (.int .u32 (s : Int)) := fun w' h => In.cell hcs0 h
          clear hcs0
          have hCC := Lib.hid (fun (w' : World) (h : In wi w') => Kd.C_below hC h.out)
          clear hC
          go_wp2_with fail
          have hj0 : (0 : Int) ≤ (j : Int) := Int.natCast_nonneg _
          have hj1 : (j : Int) < 6 := by omega
          have ht1 : two x 1 = [x] := rfl
          have ht2 : two x 2 = [x, x] := rfl
          have ht3 : two x 3 = [x, x] := rfl
          go_region_held3 (fun w' => In wi w') (first | exact In.drew (In.refl _) | exact In.alloc (by assumption) _ | exact In.next (by assumption) (by assumption))
            (first
              | (go_at_call 16; (with_reducible refine Calls.mono (moreOf (x := x) hs ?_) ?_); (· first | exact rowsOf_1 (A := some ⟨wo.heap.size, 0, none⟩) (by go_simp) (hCC.out _ (by assumption)) | exact rowsOf_2 (A := some ⟨wo.heap.size, 0, none⟩) (by go_simp) (by go_simp) (hCC.out _ (by assumption)) | exact rowsOf_3 (A := some ⟨wo.heap.size, 0, none⟩) (by go_simp) (by go_simp) (by go_simp) (hCC.out _ (by assumption))); rintro e w1 ⟨rfl, hb1⟩; have hc1 := (bcell hb1).1)
              | (go_at_call 17; (with_reducible refine Calls.mono (rmoreOf (x := x) hs ?_) ?_); (· first | exact rowsOf_1 (A := some ⟨wo.heap.size, 0, none⟩) (by go_simp) (hCC.out _ (by assumption)) | exact rowsOf_2 (A := some ⟨wo.heap.size, 0, none⟩) (by go_simp) (by go_simp) (hCC.out _ (by assumption)) | exact rowsOf_3 (A := some ⟨wo.heap.size, 0, none⟩) (by go_simp) (by go_simp) (by go_simp) (hCC.out _ (by assumption))); rintro e w1 ⟨rfl, hb1⟩; have hc1 := (bcell hb1).1))
          all_goals
            go_wp2_with fail
            go_roundw
            case rel => exact ⟨j + 1, by omega, by go_num, In.trans hin (by assumption)⟩
            case measure => simp [intOf]; omega
        · obtain rfl : j = 6 := by omega
          go_wp2_with fail
          go_roundw
          case rel => exact ⟨x.toNat + 1, by omega, by go_num, blk_below (blk_alloc HB0.out _) hin.out, hbel.trans (Below.trans ((Below.refl _ _).alloc hbel.size _) (Below.mono hin.out (by simp; have := hbel.size; omega)))⟩
          case measure => simp [intOf]; omega
    · obtain rfl : k = 256 := by omega
      go_wp2_with fail
      refine (table_any _).mono ?_
      rintro e w1 ⟨rfl, hb1⟩
      have hb1' := below_then hbel hbel.size hb1
      go_wp2_with fail
      refine (rtable_any _).mono ?_
      rintro e w2 ⟨rfl, hb2⟩
      have hb2' := below_then hb1' hb1'.size hb2
      go_wp2_with fail
      rw [equal_tab w2]
      go_simp
      go_wp2_with fail
      refine (awake_any _).mono ?_
      rintro e w3 ⟨rfl, hb3⟩
      have hb3' := below_then hb2' hb2'.size hb3
      go_wp2_with fail
      go_ret
      exact ⟨rfl, hb3'⟩
end Go.Proofs.Ytkoofoglcheonaa
