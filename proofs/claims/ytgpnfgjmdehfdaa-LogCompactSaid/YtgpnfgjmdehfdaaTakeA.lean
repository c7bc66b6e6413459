/- Entries, cloned: the row is new, what they lead to is shared. -/
import Derived.Test.YtgpnfgjmdehfdaaPutA
namespace Go.Proofs.Ytgpnfgjmdehfdaa
set_option linter.unusedVariables false
set_option linter.unusedSimpArgs false
open Go.RowKit Go.Proofs.YtgpnfgjmdehfdaaW.PrintWords

set_option maxRecDepth 100000 in
set_option maxHeartbeats 800000 in
theorem cloneEnts_any {A : Option Addr} {n c : Nat} {xs : List Ent} {W : World} {ok : Nat → Prop} (hA : Kd.F entK W ok A n xs) (hlt : ∀ k, ok k → k < W.heap.size) (hl : n ≤ 1000000000) :
    Calls Try.prog 53 #[.slice A n c] W fun e w' => ∃ v, e = .returned v ∧ Kd.N entK 45 w' 0 (fun k => ok k ∨ W.heap.size ≤ k) v xs ∧ (∀ k, v.ownBlock = some k → W.heap.size ≤ k) ∧ In W w' := by
  have q : ∀ (w : World) (a : Option Addr) (n c n' c' : Nat), (binOp .eql 22 (.slice a n c) (.slice none n' c')).run Try.prog w = .ok (.bool a.isNone) w := fun w a n c n' c' => Lib.run_eql_slice_nil w _ _ a n c n' c' Try.underlying22
  have HA := Lib.hid hA
  have hn := Kd.F_len hA
  cases A with
  | none =>
    have hx : xs = [] := by
      obtain ⟨h1, h2, h3⟩ := Kd.F_now hA
      cases xs with
      | nil => rfl
      | cons x xs => obtain ⟨ad, h4, _⟩ := h3 (by rw [← h1]; simp); cases h4
    subst hx
    clear hA hn
    go_enter Try.func53, Try.ntmps53
    go_wp2_with fail
    go_ret
    exact ⟨_, rfl, Kd.N_nil _ _ _ _ _, fun k hk => by simp [Value.ownBlock] at hk, In.refl _⟩
  | some ad =>
    clear hA
    have h0 : W.alloc (.cells #[] 45) = W.alloc (.cells #[] 45) := rfl
    have hin := In.alloc (In.refl W) (.cells #[] 45)
    have hempty : Kd.N entK 45 (W.alloc (.cells #[] 45)) 0 (fun k => ok k ∨ W.heap.size ≤ k) (.slice (some ⟨W.heap.size, 0, none⟩) 0 0) [] := by
      refine Kd.N_mono (ok := fun k => k = W.heap.size) (Kd.R_N ⟨fun k hk => by simp [Value.ownBlock] at hk; exact hk.symm, [], ?_, ?_⟩) (fun k hk => .inr (by omega))
      · exact World.ownsRow_made W #[] 0 (Nat.zero_le _) (Nat.zero_le _) rfl
      · exact ⟨rfl, fun j p hj => by simp at hj⟩
    have HE := Lib.hid hempty
    clear hempty
    go_enter Try.func53, Try.ntmps53
    go_wp2_with (at_builtin; refine Kd.N_append_rows entK (w0 := W.alloc (.cells #[] 45)) 0 rfl (.tmp 5) (.tmp 6) 22 45 _ 136 rfl Try.underlying22 info45 rfl (by decide) (by decide) (.slice (some ⟨W.heap.size, 0, none⟩) 0 0) [] xs (some ad) n c (fun k => ok k ∨ W.heap.size ≤ k) ok rfl rfl HE.out (Kd.F_below HA.out hin.out) (fun k hk => ⟨.inl hk, fun he => by simp [Value.ownBlock] at he; have := hlt k hk; omega⟩) (fun k hk => .inr (by simp at hk; omega)) (Below.refl 0 _) (Nat.zero_le _) (by simp; omega) ?_)
    intro v w1 hnn hb hg hat
    go_wp2_with fail
    go_ret
    refine ⟨v, rfl, by simpa using hnn, fun k hk => ?_, ?_⟩
    · rcases hat with ha | ⟨b, ha, hle⟩
      · rw [ha] at hk; simp [Value.ownBlock] at hk; omega
      · rw [ha] at hk; injection hk with hk; have := hin.size; omega
    · exact hin.out.grown hg hin.size (fun k hk => by simp [Value.ownBlock] at hk; omega)
end Go.Proofs.Ytgpnfgjmdehfdaa
