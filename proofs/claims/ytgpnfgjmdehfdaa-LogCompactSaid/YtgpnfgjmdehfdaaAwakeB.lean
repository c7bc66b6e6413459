/- The example of layer 10. -/
import Derived.Test.YtgpnfgjmdehfdaaAwakeA
namespace Go.Proofs.Ytgpnfgjmdehfdaa
set_option linter.unusedVariables false
set_option linter.unusedSimpArgs false
open Go.RowKit Go.Proofs.YtgpnfgjmdehfdaaW.PrintWords

theorem In.of_kept {W w w' : World} {S : Nat → Prop} (h : In W w) (hk : Kept w w' S) (hb : Below 0 w w') (hS : ∀ k, S k → W.heap.size ≤ k) : In W w' :=
  ⟨hb.os.trans h.out.os, hb.tape.trans h.out.tape, hb.output.trans h.out.output, Nat.le_trans h.size hk.1, fun k hlt => (hk.2 k (Nat.lt_of_lt_of_le hlt h.size) (fun hs => by have := hS k hs; omega)).trans (h.out.block k hlt)⟩
theorem bare_small (t : Int) : entsSmall [bare t] := ⟨by simp, fun j e he => by
  match j, he with
  | 0, he => cases he; exact ⟨by simp [bare], by simp [bare, zCfg, Cfg.len]⟩⟩
theorem put_first {p : Nat} {ok : Nat → Prop} {A : Option Addr} {W : World} (hL : IsLog W p ok ⟨5, 2, zCfg, []⟩) (hA : entK.C W A 1 [bare 2]) :
    Calls Try.prog 17 #[.pointer (some ⟨p, 0, none⟩), .slice A 1 1] W fun e w' => e = .returned (.int .i64 6) ∧ IsLog w' p (fun k => ok k ∨ W.heap.size ≤ k) ⟨5, 2, zCfg, [bare 2]⟩ ∧ Kept W w' (fun k => k = p ∨ ok k) ∧ Below 0 W w' :=
  put_yes (m := ⟨5, 2, zCfg, []⟩) (xs := [bare 2]) hL hA (bare_small 2) ⟨by decide, by decide, by decide⟩
theorem take_first {p : Nat} {ok okA : Nat → Prop} {A : Option Addr} {W : World} (hL : IsLog W p ok ⟨5, 2, zCfg, [bare 2]⟩) (hA : Kd.F entK W okA A 1 [bare 3]) (hap : ∀ k, okA k → k ≠ p) :
    Calls Try.prog 13 #[.pointer (some ⟨p, 0, none⟩), .int .i64 6, .slice A 1 1] W fun e w' => e = .returned (.tuple #[.int .i64 6, .bool true]) ∧ IsLog w' p (fun k => ok k ∨ W.heap.size ≤ k) ⟨5, 2, zCfg, [bare 3]⟩ ∧ Kept W w' (fun k => k = p ∨ ok k) ∧ Below 0 W w' :=
  take_yes (m := ⟨5, 2, zCfg, [bare 2]⟩) (xs := [bare 3]) 6 hL hA hap (by simp) (bare_small 3) ⟨by decide, by decide, by decide⟩
theorem term_first {p : Nat} {ok : Nat → Prop} {W : World} (hL : IsLog W p ok ⟨5, 2, zCfg, [bare 3]⟩) :
    Calls Try.prog 14 #[.pointer (some ⟨p, 0, none⟩), .int .i64 6] W fun e w' => e = .returned (.tuple #[.int .i64 3, .bool true]) ∧ Drawn0 W w' := by
  obtain ⟨A, c, hs, hC⟩ := hL.sees
  exact term_yes (es := [bare 3]) 6 hs hC ⟨by decide, by decide, by decide⟩
theorem last_first {p : Nat} {ok : Nat → Prop} {W : World} (hL : IsLog W p ok ⟨5, 2, zCfg, [bare 3]⟩) :
    Calls Try.prog 19 #[.pointer (some ⟨p, 0, none⟩)] W fun e w' => e = .returned (.int .i64 6) ∧ Drawn0 W w' := by
  obtain ⟨A, c, hs, hC⟩ := hL.sees
  exact last_yes hs ⟨by decide, by decide, by decide⟩
theorem new_first (w : World) : Calls Try.prog 49 #[.agg #[.int .i64 5, .int .i64 2, .slice none 0 0, .slice none 0 0, .slice none 0 0, .slice none 0 0]] w fun e w' => ∃ p, e = .returned (.pointer (some ⟨p, 0, none⟩)) ∧ IsLog w' p (fun k => w.heap.size ≤ k ∧ k ≠ p) ⟨5, 2, zCfg, []⟩ ∧ w.heap.size ≤ p ∧ In w w' :=
  new_any (x := ⟨5, 2, zCfg⟩) (basK_mk (x := ⟨5, 2, zCfg⟩) (Nat.le_refl 0) (Kd.C_nil _ _) (Nat.le_refl 0) (Kd.C_nil _ _) (Nat.le_refl 0) (Kd.C_nil _ _) (Nat.le_refl 0) (Kd.C_nil _ _)) (by simp [zCfg, Cfg.len])
set_option maxRecDepth 100000 in
set_option maxHeartbeats 1600000 in
theorem awake10_any (w : World) : Calls Try.prog 11 #[] w fun e w' => e = .returned (.bool true) ∧ In w w' := by
  go_enter Try.func11, Try.ntmps11
  go_wp2_with fail
  refine (new_first _).mono ?_
  rintro e w1 ⟨p, rfl, hL, hp, hin⟩
  have HL := Lib.hid hL
  have hpl := hL.lt
  clear hL
  go_wp2_with fail
  refine (entry_any 2 w1).mono ?_
  rintro e w2 ⟨rfl, hb2⟩
  have hinb := In.alloc hb2 (.cells #[.int .i64 2, .int .u8 1, .slice none 0 0, .slice none 0 0, .slice none 0 0, .slice none 0 0, .slice none 0 0] 45)
  go_wp2_with fail
  refine (put_first (HL.out.in_ hinb) (one_row (bare_K 2 w2))).mono ?_
  rintro e w3 ⟨rfl, hL3, hk3, hb3⟩
  have HL3 := Lib.hid hL3
  have hin3 : In w w3 := In.of_kept (hin.trans hinb) hk3 hb3 (fun k hk => hk.elim (fun h => by omega) (fun h => h.1))
  clear hL3 hk3 hb3
  go_wp2_with fail
  refine (entry_any 3 w3).mono ?_
  rintro e w4 ⟨rfl, hb4⟩
  have hinc := In.alloc hb4 (.cells #[.int .i64 3, .int .u8 1, .slice none 0 0, .slice none 0 0, .slice none 0 0, .slice none 0 0, .slice none 0 0] 45)
  have hsz : p < w4.heap.size := Nat.lt_of_lt_of_le HL3.out.lt hb4.size
  go_wp2_with fail
  refine (take_first (HL3.out.in_ hinc) (one_rowF (fun W' => bare_K 3 W')) (fun k hk => by omega)).mono ?_
  rintro e w5 ⟨rfl, hL5, hk5, hb5⟩
  have HL5 := Lib.hid hL5
  have hs1 := hin.size
  have hin5 : In w w5 := In.of_kept (hin3.trans hinc) hk5 hb5 (fun k hk => hk.elim (fun h => by omega) (fun h => h.elim (fun h => h.1) (fun h => by have := hinb.size; omega)))
  clear hL5 hk5 hb5
  go_wp2_with fail
  refine (term_first HL5.out).mono ?_
  rintro e w6 ⟨rfl, ⟨n, rfl⟩⟩
  go_wp2_with fail
  refine (last_first (HL5.out.in_ (In.drewN (In.refl _) _))).mono ?_
  rintro e w7 ⟨rfl, ⟨n2, rfl⟩⟩
  go_wp2_with fail
  go_ret
  exact ⟨rfl, In.drewN hin5 _⟩
end Go.Proofs.Ytgpnfgjmdehfdaa
