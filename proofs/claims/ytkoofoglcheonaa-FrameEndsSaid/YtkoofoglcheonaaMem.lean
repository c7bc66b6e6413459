/- Words for memory: kinds of bytes and of rows of bytes, and what an element's cell says. -/
import Derived.Test.YtkoofoglcheonaaRows
import Derived.WalkKit
import Derived.WalkSpells
import Derived.WalkLawsBesides
import Derived.Lib.Hide
import Derived.Lib.SlBytesConst
import Derived.Test.YtkoofoglcheonaaWWords
namespace Go.Proofs.Ytkoofoglcheonaa
set_option linter.unusedVariables false
set_option linter.unusedSimpArgs false
open Go.RowKit Go.Proofs.YtkoofoglcheonaaW.PrintWords

def encB (b : UInt8) : Value := .int .u8 (b.toNat : Int)
def byte : Kd UInt8 := Kd.scalar encB (fun _ => rfl)
def bytes : Kd (List UInt8) := Kd.slice 5 byte

theorem byte_at {w : World} {A : Option Addr} {n : Nat} {xs : List UInt8} (h : byte.C w A n xs) {j : Nat} (hj : j < n) :
    ∃ ad x, A = some ad ∧ xs[j]? = some x ∧ w.cell? (ad.add j) = some (.int .u8 (x.toNat : Int)) := by
  obtain ⟨h1, h2, h3⟩ := h
  obtain ⟨ad, rfl, hc⟩ := h3 (by omega)
  have hl : j < xs.length := by omega
  obtain ⟨c, hlen, hr, hcell⟩ := hc j _ (List.getElem?_eq_getElem hl)
  have hr' : c = [encB xs[j]] := hr
  subst hr'
  refine ⟨ad, xs[j], rfl, List.getElem?_eq_getElem hl, ?_⟩
  have := hcell 0 _ rfl
  have h4 : w.cell? (ad.add j) = some (encB xs[j]) := by simpa [byte, Kd.scalar] using this
  exact h4
theorem row_at {w : World} {A : Option Addr} {n : Nat} {xss : List (List UInt8)} (h : bytes.C w A n xss) {k : Nat} (hk : k < n) :
    ∃ ad A' c xs, A = some ad ∧ xss[k]? = some xs ∧ w.cell? (ad.add k) = some (.slice A' xs.length c) ∧ xs.length ≤ c ∧ byte.C w A' xs.length xs := by
  obtain ⟨h1, h2, h3⟩ := h
  obtain ⟨ad, rfl, hc⟩ := h3 (by omega)
  have hl : k < xss.length := by omega
  obtain ⟨c, hlen, hr, hcell⟩ := hc k _ (List.getElem?_eq_getElem hl)
  obtain ⟨A', c', rfl, hle, hC⟩ := hr
  refine ⟨ad, A', c', xss[k], rfl, List.getElem?_eq_getElem hl, ?_, hle, hC⟩
  have := hcell 0 _ rfl
  simpa [bytes, Kd.slice] using this
theorem byte_len {w : World} {A : Option Addr} {n : Nat} {xs : List UInt8} (h : byte.C w A n xs) : xs.length = n ∧ n ≤ 9223372036854775807 := ⟨h.1, h.2.1⟩
theorem row_len {w : World} {A : Option Addr} {n : Nat} {xs : List (List UInt8)} (h : bytes.C w A n xs) : xs.length = n ∧ n ≤ 9223372036854775807 := ⟨h.1, h.2.1⟩
theorem info5 : (Try.prog.info? 5).map (fun i => (i.zero, i.size, i.bytes)) = some (some (.int .u8 0), 1, 1) := by kernel_rfl
theorem byte_reads {w : World} {A : Option Addr} {n : Nat} {xs : List UInt8} (h : byte.C w A n xs) : ReadsOf encB (0 : UInt8) w A n xs := Kd.reads_of_C h
theorem byte_of_reads {w : World} {A : Option Addr} {n : Nat} {xs : List UInt8} (h : ReadsOf encB (0 : UInt8) w A n xs) : byte.C w A n xs := Kd.C_of_reads h
/-- A callee met in a quiet region, the world having drawn before. -/
theorem quiet_sum {P : Program} {f : FuncId} {args : Array Value} {w : World} {m n : Nat} {v : Value}
    (h : Calls P f args (w.drewN (m + n)) fun e w' => e = .returned v ∧ ∃ q, w' = (w.drewN (m + n)).drewN q) : Calls P f args (w.drewN (m + n)) fun e w'' => e = .returned v ∧ ∃ q, w'' = w.drewN (m + q) :=
  h.mono fun _ _ ⟨he, q, hq⟩ => ⟨he, n + q, by rw [hq, World.drewN_drewN, Nat.add_assoc]⟩
theorem quiet_sum_same {P : Program} {f : FuncId} {args : Array Value} {w : World} {m n : Nat} {v : Value}
    (h : Calls P f args (w.drewN (m + n)) fun e w' => e = .returned v ∧ w' = w.drewN (m + n)) : Calls P f args (w.drewN (m + n)) fun e w'' => e = .returned v ∧ ∃ q, w'' = w.drewN (m + q) :=
  h.mono fun _ _ ⟨he, hq⟩ => ⟨he, n, hq⟩
theorem byte_lit (W : World) (xs : List UInt8) (hm : xs.length ≤ 9223372036854775807) : byte.C (W.alloc (.cells (encs encB xs).toArray 5)) (some ⟨W.heap.size, 0, none⟩) xs.length xs :=
  byte_of_reads (own_reads_of' (own_lit_of W 0 5 xs (Nat.zero_le _) hm))
theorem byte_blk {W : World} {g : Nat} {cs : Array Value} {fr : Nat × Nat} {xs : List UInt8} {o : Nat} (hb : W.heap[g]? = some (.cells cs 5 fr)) (hm : xs.length ≤ 9223372036854775807)
    (hc : ∀ j, j < xs.length → cs[o + j]? = some (encB (xs.getD j 0))) : byte.C W (some ⟨g, o, none⟩) xs.length xs :=
  byte_of_reads ⟨rfl, hm, fun _ => ⟨_, rfl, fun j hj => by
    have h1 : (⟨g, o, none⟩ : Addr).add j = ⟨g, o + j, none⟩ := by unfold Addr.add; split <;> simp_all
    rw [h1, cell_of_row W g (o + j) cs 5 fr hb]
    exact hc j hj⟩⟩
theorem byte_lit_marked (W : World) (xs : List UInt8) (fr : Nat × Nat) (hm : xs.length ≤ 9223372036854775807) : byte.C (W.alloc (.cells (encs encB xs).toArray 5 fr)) (some ⟨W.heap.size, 0, none⟩) xs.length xs :=
  byte_blk (blk_new W _) hm (fun j hj => by
    rw [Nat.zero_add, List.getElem?_toArray]
    exact encs_get (d := (0 : UInt8)) xs j hj)
theorem byte_nil (W : World) : byte.C W none 0 [] := byte_of_reads (ReadsOf.nil encB (0 : UInt8) W)
theorem row_nil (W : World) (A : Option Addr) : bytes.C W A 0 [] := ⟨rfl, by omega, fun h => absurd h (by omega)⟩
/-- A row of slices that a call lays: each part reads in the world ahead. -/
theorem rows_lit (W : World) (vs : List Value) (xss : List (List UInt8)) (hl : vs.length = xss.length) (hm : vs.length ≤ 9223372036854775807)
    (h : ∀ (i : Nat) (xs : List UInt8), xss[i]? = some xs → ∃ A c, vs[i]? = some (.slice A xs.length c) ∧ xs.length ≤ c ∧ byte.C W A xs.length xs) :
    bytes.C (W.alloc (.cells vs.toArray 34)) (some ⟨W.heap.size, 0, none⟩) vs.length xss := by
  refine ⟨hl.symm, hm, fun _ => ⟨_, rfl, fun j p hp => ?_⟩⟩
  obtain ⟨A, c, hv, hle, hC⟩ := h j p hp
  refine ⟨[.slice A p.length c], rfl, ⟨A, c, rfl, hle, Kd.C_below hC (below_alloc (Below.refl _ _) _)⟩, fun i u hu => ?_⟩
  match i, hu with
  | 0, hu =>
    simp at hu
    subst hu
    have h1 : (W.alloc (.cells vs.toArray 34)).cell? ⟨W.heap.size, j, none⟩ = vs.toArray[j]? := blk_cell (blk_new W _) j
    rw [show j * bytes.sz + 0 = j from by simp [bytes, Kd.slice], add_plain, h1, List.getElem?_toArray]
    exact hv
theorem row_one {W : World} {A : Option Addr} {c g : Nat} {xs : List UInt8} (hg : g = W.heap.size) (h : byte.C W A xs.length xs) (hle : xs.length ≤ c) :
    bytes.C (W.alloc (.cells #[.slice A xs.length c] 34)) (some ⟨g, 0, none⟩) 1 [xs] := by
  subst hg
  exact rows_lit W [.slice A xs.length c] [xs] rfl (by simp) (fun i ys hi => by
    match i, hi with
    | 0, hi => cases hi; exact ⟨A, c, rfl, hle, h⟩)
theorem row_two {W : World} {A B : Option Addr} {c d g : Nat} {xs ys : List UInt8} (hg : g = W.heap.size) (h : byte.C W A xs.length xs) (hle : xs.length ≤ c) (h2 : byte.C W B ys.length ys) (hle2 : ys.length ≤ d) :
    bytes.C (W.alloc (.cells #[.slice A xs.length c, .slice B ys.length d] 34)) (some ⟨g, 0, none⟩) 2 [xs, ys] := by
  subst hg
  exact rows_lit W [.slice A xs.length c, .slice B ys.length d] [xs, ys] rfl (by simp) (fun i zs hi => by
    match i, hi with
    | 0, hi => cases hi; exact ⟨A, c, rfl, hle, h⟩
    | 1, hi => cases hi; exact ⟨B, d, rfl, hle2, h2⟩)
/-- Rows and bytes read off cells. -/
theorem add_at (g o j : Nat) : (⟨g, o, none⟩ : Addr).add j = ⟨g, o + j, none⟩ := by unfold Addr.add; split <;> simp_all
theorem row_cells {W : World} {g o n : Nat} {xss : List (List UInt8)} (hn : n = xss.length) (hm : n ≤ 9223372036854775807)
    (h : ∀ (i : Nat) (xs : List UInt8), xss[i]? = some xs → ∃ A c, W.cell? ⟨g, o + i, none⟩ = some (.slice A xs.length c) ∧ xs.length ≤ c ∧ byte.C W A xs.length xs) : bytes.C W (some ⟨g, o, none⟩) n xss := by
  refine ⟨hn.symm, hm, fun _ => ⟨_, rfl, fun j p hp => ?_⟩⟩
  obtain ⟨A, c, hv, hle, hC⟩ := h j p hp
  refine ⟨[.slice A p.length c], rfl, ⟨A, c, rfl, hle, hC⟩, fun i u hu => ?_⟩
  match i, hu with
  | 0, hu =>
    simp at hu
    subst hu
    rw [show j * bytes.sz + 0 = j from by simp [bytes, Kd.slice], add_at]
    exact hv
theorem row_cell1 {W : World} {g : Nat} {A : Option Addr} {c : Nat} {xs : List UInt8} (h : W.cell? ⟨g, 0, none⟩ = some (.slice A xs.length c)) (hle : xs.length ≤ c) (hC : byte.C W A xs.length xs) : bytes.C W (some ⟨g, 0, none⟩) 1 [xs] :=
  row_cells rfl (by omega) (fun i ys hi => by
    match i, hi with
    | 0, hi => cases hi; exact ⟨A, c, h, hle, hC⟩)
theorem row_cell2 {W : World} {g : Nat} {A B : Option Addr} {c d : Nat} {xs ys : List UInt8} (h : W.cell? ⟨g, 0, none⟩ = some (.slice A xs.length c)) (h2 : W.cell? ⟨g, 1, none⟩ = some (.slice B ys.length d)) (hle : xs.length ≤ c) (hle2 : ys.length ≤ d)
    (hC : byte.C W A xs.length xs) (hC2 : byte.C W B ys.length ys) : bytes.C W (some ⟨g, 0, none⟩) 2 [xs, ys] :=
  row_cells rfl (by omega) (fun i zs hi => by
    match i, hi with
    | 0, hi => cases hi; exact ⟨A, c, h, hle, hC⟩
    | 1, hi => cases hi; exact ⟨B, d, h2, hle2, hC2⟩)
theorem row_cell3 {W : World} {g : Nat} {A B D : Option Addr} {c d e : Nat} {xs ys zs : List UInt8} (h : W.cell? ⟨g, 0, none⟩ = some (.slice A xs.length c)) (h2 : W.cell? ⟨g, 1, none⟩ = some (.slice B ys.length d)) (h3 : W.cell? ⟨g, 2, none⟩ = some (.slice D zs.length e))
    (hle : xs.length ≤ c) (hle2 : ys.length ≤ d) (hle3 : zs.length ≤ e) (hC : byte.C W A xs.length xs) (hC2 : byte.C W B ys.length ys) (hC3 : byte.C W D zs.length zs) : bytes.C W (some ⟨g, 0, none⟩) 3 [xs, ys, zs] :=
  row_cells rfl (by omega) (fun i us hi => by
    match i, hi with
    | 0, hi => cases hi; exact ⟨A, c, h, hle, hC⟩
    | 1, hi => cases hi; exact ⟨B, d, h2, hle2, hC2⟩
    | 2, hi => cases hi; exact ⟨D, e, h3, hle3, hC3⟩)
theorem byte_cell1 {W : World} {g : Nat} {x : UInt8} (h : W.cell? ⟨g, 0, none⟩ = some (.int .u8 (x.toNat : Int))) : byte.C W (some ⟨g, 0, none⟩) 1 [x] :=
  byte_of_reads ⟨rfl, by omega, fun _ => ⟨_, rfl, fun j hj => by
    obtain rfl : j = 0 := by omega
    rw [add_at]
    exact h⟩⟩
theorem bcell {W w1 : World} (hb : Below W.heap.size W w1) : (∀ b o, b < W.heap.size → w1.cell? ⟨b, o, none⟩ = W.cell? ⟨b, o, none⟩) ∧ (∀ b o, b < W.heap.size → w1.frozen? ⟨b, o, none⟩ = W.frozen? ⟨b, o, none⟩) :=
  ⟨fun b o h => hb.cell (p := ⟨b, o, none⟩) h, fun b o h => hb.frozen (p := ⟨b, o, none⟩) h⟩
/-- A byte of a row of one's own: read, stored. -/
theorem own_byte {W : World} {base g n cap : Nat} {xs : List UInt8} (h : W.ownsRow base 5 1 (.slice (some ⟨g, 0, none⟩) n cap) n (encs encB xs)) (i : Nat) (hi : i < n) :
    W.cell? ⟨g, i, none⟩ = some (.int .u8 ((xs.getD i 0).toNat : Int)) ∧ W.frozen? ⟨g, i, none⟩ = false := by
  have := own_at_of (d := (0 : UInt8)) h (i : Int) (by omega) (by omega)
  exact this
theorem own_byte_put {W : World} {base g n cap : Nat} {xs : List UInt8} (h : W.ownsRow base 5 1 (.slice (some ⟨g, 0, none⟩) n cap) n (encs encB xs)) (i : Nat) (y : UInt8) :
    (W.setCell ⟨g, i, none⟩ (.int .u8 (y.toNat : Int))).ownsRow base 5 1 (.slice (some ⟨g, 0, none⟩) n cap) n (encs encB (xs.set i y)) := (own_store_of h (i : Int) y).1
end Go.Proofs.Ytkoofoglcheonaa
