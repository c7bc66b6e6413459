/- The walks of package sum: shift, begun, feed, More, Sum, Table. -/
import Derived.Test.YtkoofoglcheonaaRows
import Derived.WalkKit
import Derived.WalkSpells
import Derived.WalkLawsBesides
import Derived.Test.YtkoofoglcheonaaWWords
import Derived.Test.YtkoofoglcheonaaBits
namespace Go.Proofs.Ytkoofoglcheonaa
set_option linter.unusedVariables false
set_option linter.unusedSimpArgs false
open Go.RowKit Go.Proofs.YtkoofoglcheonaaW.PrintWords

theorem setIf_self {c : Array Value} {o : Nat} {v : Value} (h : c[o]? = some v) : c.setIfInBounds o v = c := by
  apply Array.ext_getElem?
  intro i
  rw [Array.getElem?_setIfInBounds]
  split
  · rename_i hi
    subst hi
    split
    · exact h.symm
    · rename_i h2
      rw [Array.getElem?_eq_none (by omega)]
  · rfl
theorem setCell_self {w : World} {b o : Nat} {v : Value} (h : w.cell? ⟨b, o, none⟩ = some v) : w.setCell ⟨b, o, none⟩ v = w := by
  have hh : (w.setCell ⟨b, o, none⟩ v).heap = w.heap := by
    apply Array.ext_getElem?
    intro i
    simp only [World.setCell, Array.getElem?_modify]
    split
    · rename_i hi
      subst hi
      cases hb : w.heap[b]? with
      | none => rfl
      | some x =>
        cases x <;> simp [World.cell?, hb] at h ⊢
        exact setIf_self h
    · rfl
  cases w
  simp only [World.setCell] at hh ⊢
  rw [hh]
theorem setCell_twice (w : World) (b o : Nat) (u v : Value) : (w.setCell ⟨b, o, none⟩ u).setCell ⟨b, o, none⟩ v = w.setCell ⟨b, o, none⟩ v := by
  have hh : ((w.setCell ⟨b, o, none⟩ u).setCell ⟨b, o, none⟩ v).heap = (w.setCell ⟨b, o, none⟩ v).heap := by
    apply Array.ext_getElem?
    intro i
    simp only [World.setCell, Array.getElem?_modify]
    split
    · cases hb : w.heap[i]? with
      | none => rfl
      | some x => cases x <;> simp
    · rfl
  cases w
  simp only [World.setCell] at hh ⊢
  rw [hh]
theorem setCell_eq {w : World} {b o : Nat} {u v v' : Value} (h : v = v') : (w.setCell ⟨b, o, none⟩ u).setCell ⟨b, o, none⟩ v = w.setCell ⟨b, o, none⟩ v' := by rw [setCell_twice, h]

set_option maxHeartbeats 400000 in
theorem shift_any (b o n r : Nat) (w : World) (hn : n < 1000) (hr : r < 4294967296) (hc : w.cell? ⟨b, o, none⟩ = some (.int .u32 r)) (hf : w.frozen? ⟨b, o, none⟩ = false) :
    Calls Try.prog 39 #[.pointer (some ⟨b, o, none⟩), .int .i64 n] w fun e w' => e = .returned (.tuple #[]) ∧ w' = w.setCell ⟨b, o, none⟩ (.int .u32 (Crc.It n r : Nat)) := by
  go_enter Try.func39, Try.ntmps39
  go_wp2
  go_loopw [6] (fun i wr => ∃ k : Nat, k ≤ n ∧ i = .int .i64 k ∧ wr = w.setCell ⟨b, o, none⟩ (.int .u32 (Crc.It k r : Nat))) (fun i _ => n - (intOf i).toNat)
  case atStart => exact ⟨0, Nat.zero_le _, rfl, (setCell_self hc).symm⟩
  case round =>
    obtain ⟨k, hk, rfl, rfl⟩ := hrel
    have hlt := Crc.It_lt k hr
    go_wp2
    · go_roundw
      case rel =>
        refine ⟨k + 1, by omega, by go_num, setCell_eq ?_⟩
        rw [step_spelt _ (by omega), It_snoc]
      case measure => simp [intOf]; omega
    · go_end0
      have : k = n := by omega
      subst this
      exact ⟨rfl, rfl⟩
end Go.Proofs.Ytkoofoglcheonaa
