/- How much there is: ConfigOf, EntriesOf, LetterOf, and the bounds that the laws go through in time. -/
import Derived.Test.YtgpnfgjmdehfdaaSameC
namespace Go.Proofs.Ytgpnfgjmdehfdaa
set_option linter.unusedVariables false
set_option linter.unusedSimpArgs false
open Go.RowKit Go.Proofs.YtgpnfgjmdehfdaaW.PrintWords

def Cfg.len (g : Cfg) : Nat := 1 + g.v.length + g.o.length + g.l.length + g.w.length
def Ent.len (e : Ent) : Nat := 1 + e.c.length / 8 + e.g.len
def entsOf : List Ent → Nat
  | [] => 0
  | e :: es => e.len + entsOf es
theorem entsOf_take {es : List Ent} {j : Nat} {e : Ent} (h : es[j]? = some e) : entsOf (es.take (j + 1)) = entsOf (es.take j) + e.len := by
  induction es generalizing j with
  | nil => simp at h
  | cons a es ih =>
    cases j with
    | zero => simp at h; subst h; simp [entsOf]
    | succ j =>
      simp at h
      have := ih h
      simp only [List.take_succ_cons, entsOf] at this ⊢
      omega
/-- No row of it is longer than can be. -/
def Cfg.fits (g : Cfg) : Prop := g.v.length ≤ 200000000000000 ∧ g.o.length ≤ 200000000000000 ∧ g.l.length ≤ 200000000000000 ∧ g.w.length ≤ 200000000000000
def Ent.fits (e : Ent) : Prop := e.c.length ≤ 200000000000000 ∧ e.g.fits
def entsFit (es : List Ent) : Prop := es.length ≤ 200000000000000 ∧ ∀ (j : Nat) (e : Ent), es[j]? = some e → e.fits
/-- n is so many, unless it is more than was asked for. -/
def upTo (n most t : Nat) : Prop := n ≤ most → t = n
set_option maxHeartbeats 400000 in
theorem configOf_any {x : Cfg} {cs : List Value} {w : World} (hA : cfgK.K w x cs) (hf : x.fits) :
    Calls Try.prog 27 #[.agg cs.toArray] w fun e w' => e = .returned (.int .i64 x.len) ∧ In w w' := by
  obtain ⟨A0, c0, A1, c1, A2, c2, A3, c3, rfl, l0, g0, l1, g1, l2, g2, l3, g3⟩ := cfgK_open hA
  obtain ⟨f0, f1, f2, f3⟩ := hf
  clear hA g0 g1 g2 g3
  go_enter Try.func27, Try.ntmps27
  go_wp2_with fail
  go_ret
  exact ⟨by simp [Cfg.len], (by unfold In; repeat (first | (with_reducible first | exact Below.refl _ _ | assumption | apply below_alloc | apply pw_below_drewN | apply below_drew1)))⟩
set_option maxRecDepth 100000 in
set_option maxHeartbeats 800000 in
theorem entriesOf_any {A : Option Addr} {c : Nat} {xs : List Ent} {w : World} (most : Nat) (hmost : most ≤ 1000000) (hA : entK.C w A xs.length xs) (hf : entsFit xs) :
    Calls Try.prog 51 #[.slice A xs.length c, .int .i64 most] w fun e w' => ∃ n : Nat, e = .returned (.int .i64 n) ∧ In w w' ∧ n ≤ 2000000000000000 ∧ upTo n most (entsOf xs) := by
  have hm : xs.length ≤ 200000000000000 := hf.1
  have HA := Lib.hid hA
  have HF := Lib.hid hf.2
  clear hA hf
  go_enter Try.func51, Try.ntmps51
  go_wp2_with fail
  go_loopw [5, 6] (fun n i wr => ∃ j m : Nat, j ≤ xs.length ∧ i = .int .i64 j ∧ n = .int .i64 m ∧ m = entsOf (xs.take j) ∧ m ≤ 2000000000000000 ∧ In w wr) (fun _ i _ => xs.length - (intOf i).toNat)
  case atStart => exact ⟨0, 0, by omega, rfl, rfl, by simp [entsOf], by omega, In.refl _⟩
  case round =>
    obtain ⟨j, m, hj, rfl, rfl, hjm, hmm, hin⟩ := hrel
    have HJ := Lib.hid hjm
    clear hjm
    by_cases hl : j < xs.length
    · have hd1 : decide ((j : Int) < (xs.length : Int)) = true := decide_eq_true (by omega)
      by_cases hle : m ≤ most
      · have hd2 : decide ((m : Int) ≤ (most : Int)) = true := decide_eq_true (by omega)
        obtain ⟨ad, x, A2, c2, A3, c3, A4, c4, A5, c5, A6, c6, rfl, hx, k0, k1, k2, k3, k4, k5, k6, l2, g2, l3, g3, l4, g4, l5, g5, l6, g6⟩ := entK_at (Kd.C_below HA.out hin.out) hl
        have HX := Lib.hid (cfgK_mk (x := x.g) l3 g3 l4 g4 l5 g5 l6 g6)
        obtain ⟨f0, f1⟩ := HF.out j x hx
        have HG := Lib.hid f1
        obtain ⟨f1, f2, f3, f4⟩ := f1
        have hT := Lib.hid (entsOf_take hx)
        clear hx g2 g3 g4 g5 g6 HA
        obtain ⟨wo, rfl⟩ : ∃ wo : World, wo = wr := ⟨_, rfl⟩
        have hlen : x.g.len ≤ 800000000000001 := by unfold Cfg.len; omega
        clear f1 f2 f3 f4
        have hwa : IntKind.i64.wrap ((m : Int) + 1) = (m : Int) + 1 := IntWalk.i64_in _ (by omega)
        have hwb : IntKind.i64.wrap ((x.c.length : Int) / 8) = (x.c.length : Int) / 8 := IntWalk.i64_in _ (by omega)
        have hwc : IntKind.i64.wrap ((m : Int) + 1 + (x.c.length : Int) / 8) = (m : Int) + 1 + (x.c.length : Int) / 8 := IntWalk.i64_in _ (by omega)
        have hwd : IntKind.i64.wrap ((m : Int) + 1 + (x.c.length : Int) / 8 + (x.g.len : Int)) = (m : Int) + 1 + (x.c.length : Int) / 8 + (x.g.len : Int) := IntWalk.i64_in _ (by omega)
        have hel := Lib.hid (show x.len = 1 + x.c.length / 8 + x.g.len from rfl)

        replace k2 := In.cells k2
        replace k3 := In.cells k3
        replace k4 := In.cells k4
        replace k5 := In.cells k5
        replace k6 := In.cells k6
        go_wp2_with fail
        go_region_held3 (fun w' => In wo w') (first | exact In.drew (In.refl _) | exact In.alloc (by assumption) _ | exact In.next (by assumption) (by assumption))
          (first
            | (go_at_call 27; (with_reducible refine Calls.mono (configOf_any (x := x.g) (cfgK.K_below (In.out (by assumption)) HX.out) HG.out) ?_); rintro e w1 ⟨rfl, hb1⟩))
        go_wp2_with fail
        go_roundw
        case rel => exact ⟨j + 1, m + x.len, by omega, by go_num, by rw [hel.out]; congr 1; omega, by rw [hT.out, HJ.out], by have := hel.out; omega, In.trans hin (show In wo _ by assumption)⟩
        case measure => simp [intOf]; omega
      · have hd2 : decide ((m : Int) ≤ (most : Int)) = false := decide_eq_false (by omega)
        go_wp2_with fail
        go_ret
        exact ⟨m, rfl, hin, hmm, fun h => absurd h hle⟩
    · obtain rfl : j = xs.length := by omega
      rw [List.take_length] at HJ
      go_wp2_with fail
      go_ret
      exact ⟨m, rfl, hin, hmm, fun _ => HJ.out.symm⟩
end Go.Proofs.Ytgpnfgjmdehfdaa
