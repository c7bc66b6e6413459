/- Two logs that lie apart: what is done with one leaves the other. -/
import Derived.Test.YtgpnfgjmdehfdaaTakC
import Derived.Test.YtgpnfgjmdehfdaaAwakeB
namespace Go.Proofs.Ytgpnfgjmdehfdaa
set_option linter.unusedVariables false
set_option linter.unusedSimpArgs false
open Go.RowKit Go.Proofs.YtgpnfgjmdehfdaaW.PrintWords

theorem IsLog.bound {W : World} {p : Nat} {ok : Nat → Prop} {m : LM} (h : IsLog W p ok m) : IsLog W p (fun k => ok k ∧ k < W.heap.size) m := by
  obtain ⟨A0, c0, A1, c1, A2, c2, A3, c3, A, c, hb, hg, he, hp⟩ := h
  exact ⟨A0, c0, A1, c1, A2, c2, A3, c3, A, c, hb, Kd.FK_mono (Kd.FK_bound hg) (fun k hk => ⟨⟨hk.1.1, hk.2⟩, hk.1.2⟩), Kd.N_bound he, fun h => hp h.1⟩
/-- Logs at p and q, made since W, apart from each other. -/
structure TwoX (W w : World) (p : Nat) (okp : Nat → Prop) (m : LM) (q : Nat) (okq : Nat → Prop) (n : LM) : Prop where
  lp : IsLog w p okp m
  lq : IsLog w q okq n
  ne : p ≠ q
  hp : W.heap.size ≤ p
  hq : W.heap.size ≤ q
  op : ∀ k, okp k → W.heap.size ≤ k ∧ k < w.heap.size ∧ k ≠ q ∧ ¬ okq k
  oq : ∀ k, okq k → W.heap.size ≤ k ∧ k < w.heap.size ∧ k ≠ p
def Two (W w : World) (p : Nat) (m : LM) (q : Nat) (n : LM) : Prop := ∃ okp okq, TwoX W w p okp m q okq n
theorem TwoX.two {W w : World} {p q : Nat} {okp okq : Nat → Prop} {m n : LM} (h : TwoX W w p okp m q okq n) : Two W w p m q n := ⟨_, _, h⟩
theorem Two.in_ {W w w1 : World} {p q : Nat} {m n : LM} (h : Two W w p m q n) (hb : In w w1) : Two W w1 p m q n := by
  obtain ⟨okp, okq, h⟩ := h
  have hs := hb.size
  exact ⟨okp, okq, h.lp.in_ hb, h.lq.in_ hb, h.ne, h.hp, h.hq, fun k hk => by have := h.op k hk; exact ⟨this.1, by omega, this.2.2⟩, fun k hk => by have := h.oq k hk; exact ⟨this.1, by omega, this.2.2⟩⟩
theorem TwoX.swap {W w : World} {p q : Nat} {okp okq : Nat → Prop} {m n : LM} (h : TwoX W w p okp m q okq n) : TwoX W w q okq n p okp m :=
  ⟨h.lq, h.lp, h.ne.symm, h.hq, h.hp, fun k hk => ⟨(h.oq k hk).1, (h.oq k hk).2.1, (h.oq k hk).2.2, fun h2 => (h.op k h2).2.2.2 hk⟩, fun k hk => ⟨(h.op k hk).1, (h.op k hk).2.1, (h.op k hk).2.2.1⟩⟩
theorem Two.swap {W w : World} {p q : Nat} {m n : LM} (h : Two W w p m q n) : Two W w q n p m := by
  obtain ⟨okp, okq, h⟩ := h
  exact ⟨okq, okp, h.swap⟩
/-- Something was done with the log at p. -/
theorem TwoX.turn {W w w' : World} {p q : Nat} {okp okq : Nat → Prop} {m n m' : LM} (h : TwoX W w p okp m q okq n) (hin : In W w) (hL : IsLog w' p (fun k => okp k ∨ w.heap.size ≤ k) m') (hk : Kept w w' (fun k => k = p ∨ okp k)) (hb : Below 0 w w') : Two W w' p m' q n ∧ In W w' := by
  have hlq := h.lq.lt
  refine ⟨⟨_, okq, hL.bound, h.lq.kept hk (fun hh => hh.elim (fun e => h.ne e.symm) (fun e => (h.op q e).2.2.1 rfl)) (fun k hq hh => hh.elim (fun e => (h.oq k hq).2.2 e) (fun e => (h.op k e).2.2.2 hq)), h.ne, h.hp, h.hq, fun k hk2 => ?_, fun k hq => ?_⟩, ?_⟩
  · rcases hk2 with ⟨h1 | h1, h2⟩
    · have := h.op k h1
      exact ⟨this.1, h2, this.2.2⟩
    · have := hin.size
      exact ⟨by omega, h2, by omega, fun hh => by have := (h.oq k hh).2.1; omega⟩
  · have := h.oq k hq
    have := hk.1
    exact ⟨by omega, by omega, by omega⟩
  · exact In.of_kept hin hk hb (fun k hh => hh.elim (fun e => e ▸ h.hp) (fun e => (h.op k e).1))
/-- Two new logs. -/
theorem two_new {W w1 w2 : World} {p q : Nat} {m n : LM} (hin : In W w1) (h1 : IsLog w2 p (fun k => W.heap.size ≤ k ∧ k < w1.heap.size ∧ k ≠ p) m) (hp : W.heap.size ≤ p) (hp1 : p < w1.heap.size) (h2 : IsLog w2 q (fun k => w1.heap.size ≤ k ∧ k ≠ q) n) (hq : w1.heap.size ≤ q) : Two W w2 p m q n := by
  have hs := hin.size
  have hql := h2.lt
  exact ⟨_, _, h1.bound, h2.bound, by omega, hp, by omega, fun k hk => ⟨hk.1.1, hk.2, by omega, fun hh => by have := hh.1.1; omega⟩, fun k hk => ⟨by omega, hk.2, by omega⟩⟩
theorem ent_heap : Kd.Heap entK := Kd.heap_iso _ (Kd.heap_pair (Kd.heap_int _) (Kd.heap_pair (Kd.heap_int _) (Kd.heap_pair (Kd.heap_slice _ (Kd.heap_int _)) (Kd.heap_iso _ (Kd.heap_pair (Kd.heap_slice _ (Kd.heap_int _)) (Kd.heap_pair (Kd.heap_slice _ (Kd.heap_int _)) (Kd.heap_pair (Kd.heap_slice _ (Kd.heap_int _)) (Kd.heap_slice _ (Kd.heap_int _)))))))))
section
variable {W w : World} {p q : Nat} {m n : LM} {A : Option Addr} {c : Nat} {xs : List Ent}
theorem put_two (h : Two W w p m q n) (hin : In W w) (hA : entK.C w A xs.length xs) (hs : entsSmall xs) (hf : Fair m.i (m.es.length + xs.length)) :
    Calls Try.prog 17 #[.pointer (some ⟨p, 0, none⟩), .slice A xs.length c] w fun e w' => e = .returned (.int .i64 (m.i + (m.es.length + xs.length : Nat))) ∧ Two W w' p ⟨m.i, m.t, m.g, m.es ++ xs⟩ q n ∧ In W w' := by
  obtain ⟨okp, okq, h⟩ := h
  exact (put_yes h.lp hA hs hf).mono fun e w' ⟨he, hL, hk, hb⟩ => ⟨he, h.turn hin hL hk hb⟩
theorem take_two (index : Int) (h : Two W w p m q n) (hin : In W w) (hA : entK.C W A xs.length xs) (hc : xs.length ≤ c) (hs : entsSmall xs) (hf : Fair m.i (m.es.length + xs.length + 1)) :
    Calls Try.prog 13 #[.pointer (some ⟨p, 0, none⟩), .int .i64 index, .slice A xs.length c] w fun e w' => e = .returned (.tuple #[.int .i64 (takeOf m index xs).2.1, .bool (takeOf m index xs).2.2]) ∧ Two W w' p (takeOf m index xs).1 q n ∧ In W w' := by
  obtain ⟨okp, okq, h⟩ := h
  have hF := Kd.F_below (Kd.C_F ent_heap hA) hin.out
  exact (take_yes index h.lp hF (fun k hk => by have := h.hp; omega) hc hs hf).mono fun e w' ⟨he, hL, hk, hb⟩ => ⟨he, h.turn hin hL hk hb⟩
theorem last_two (h : Two W w p m q n) (hf : Fair m.i m.es.length) : Calls Try.prog 19 #[.pointer (some ⟨p, 0, none⟩)] w fun e w' => e = .returned (.int .i64 m.last) ∧ Drawn0 w w' := by
  obtain ⟨okp, okq, h⟩ := h
  obtain ⟨A, c, hs, hC⟩ := h.lp.sees
  exact last_yes hs hf
theorem term_two (k : Int) (h : Two W w p m q n) (hf : Fair m.i m.es.length) : Calls Try.prog 14 #[.pointer (some ⟨p, 0, none⟩), .int .i64 k] w fun e w' => e = .returned (.tuple #[.int .i64 (termOf m.i m.t m.es k).1, .bool (termOf m.i m.t m.es k).2]) ∧ Drawn0 w w' := by
  obtain ⟨okp, okq, h⟩ := h
  obtain ⟨A, c, hs, hC⟩ := h.lp.sees
  exact term_yes k hs hC hf
end
end Go.Proofs.Ytgpnfgjmdehfdaa
