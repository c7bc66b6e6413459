/- append, and what rows stand as they stood. -/
import Derived.Test.YtkoofoglcheonaaRfM
import Derived.Maps.AppendAt
namespace Go.Proofs.Ytkoofoglcheonaa
set_option linter.unusedVariables false
set_option linter.unusedSimpArgs false
open Go.RowKit Go.Proofs.YtkoofoglcheonaaW.PrintWords

section
variable {P : Program}
theorem run_append_keep (w : World) (base : Nat) (t ty e : TypeId) (i : TypeInfo) (z : Value) (bytes : Nat) (ht : P.underlying t = some (.slice e)) (hi : P.info? e = some i) (hz : i.zero = some z)
    (hsize : i.size = 1) (hby : i.bytes = bytes) (hzs : z.cells.size = 1)
    (v : Value) (n : Nat) (xs : List Value) (hown : w.ownsRow base e 1 v n xs)
    (a : Addr) (m c : Nat) (news : List Value) (hl : news.length = m) (hnews : ∀ j u, news[j]? = some u → w.cell? (a.add j) = some u) (h1 : ∀ u ∈ news, u.oneCell' = true)
    (h63 : n + m ≤ maxLen) (hbytes : (n + m) * bytes ≤ 140737488355328) (hbase : base ≤ w.heap.size) :
    ∃ v' w', (Builtin.append_ #[t, t] ty #[v, .slice (some a) m c]).run P w = .ok v' w' ∧ w'.ownsRow base e 1 v' (n + m) (xs ++ news) ∧ w.grownBy w' v.ownBlock ∧ (v'.ownBlock = v.ownBlock ∨ v'.ownBlock = some w.heap.size) ∧
      ∀ v0 n0 xs0, n0 ≤ n → w.ownsRow base e 1 v0 n0 xs0 → w'.ownsRow base e 1 v0 n0 xs0 := by
  obtain ⟨v', w', hrun, ho, hg, _, hat⟩ := run_append_own_at (P := P) (w := w) base t ty e i z 1 bytes ht hi hz hsize hby hzs (by decide) v n xs hown a m c news (by omega) hnews h1 h63 hbytes hbase
  refine ⟨v', w', hrun, ho, hg, hat, fun v0 n0 xs0 hn0 h0 => ?_⟩
  by_cases hne : ∀ q, v0.ownBlock = some q → some q ≠ v.ownBlock
  · exact own_move h0 (fun q hq => hg.block q (own_lt h0 q hq) (hne q hq))
  · have hex : ∃ q, v0.ownBlock = some q ∧ some q = v.ownBlock := Classical.byContradiction fun h => hne (fun q hq he => h ⟨q, hq, he⟩)
    obtain ⟨q, hq0, hqv⟩ := hex
    rcases hown.2 with ⟨rfl, _⟩ | ⟨g, cap, cur, rfl, hbg, hgc, hnc, hcm, hcs, htake⟩
    · simp [Value.ownBlock] at hqv
    · have hqg : q = g := by simpa [Value.ownBlock] using hqv
      subst hqg
      rcases h0.2 with ⟨rfl, _⟩ | ⟨g0, cap0, cur0, rfl, hb0, hgc0, hnc0, hcm0, hcs0, htake0⟩
      · simp [Value.ownBlock] at hq0
      · have hgg : g0 = q := by simpa [Value.ownBlock] using hq0
        subst hgg
        have hcur : cur0 = cur := by
          rw [hgc] at hgc0
          injection hgc0 with h
          injection h with h
          exact h.symm
        subst hcur
        by_cases hroom : n + m ≤ cap
        · have hfit : n * i.size + news.length ≤ cur0.size := by rw [hl, hcs, hsize]; omega
          have hr := run_append_room (P := P) w t ty e i ht hi g0 n cap cur0 hgc a m c news (by rw [hsize]; omega) hnews h1 hroom hfit
          rw [hr] at hrun
          injection hrun with hv hw
          subst hw
          refine ⟨h0.1, .inr ⟨g0, cap0, _, rfl, hb0, setRow_heap w g0 cur0 _ e _ hgc, hnc0, hcm0, ?_, ?_⟩⟩
          · rw [← hcs0]
            simp only [List.size_toArray, List.length_append, List.length_take, List.length_drop, Array.length_toList]
            omega
          · rw [← htake0]
            rw [List.append_assoc, List.take_append_of_le_length (by rw [List.length_take, Array.length_toList, hsize]; omega), List.take_take]
            congr 1
            rw [hsize]
            omega
        · have holds : ∀ j u, xs[j]? = some u → w.cell? ((⟨g0, 0, none⟩ : Addr).add j) = some u := hown.cells (g := g0) rfl
          have hr := run_append_grow (P := P) w t ty e i z ht hi hz ⟨g0, 0, none⟩ n cap xs (by rw [hsize]; exact hown.1) holds a m c news (by rw [hsize]; omega) hnews (by omega) (by simp only [maxLen] at h63; omega) (growslice_fits (by omega) (by rw [hby]; exact hbytes))
          rw [hr] at hrun
          injection hrun with hv hw
          subst hw
          refine own_move h0 (fun q hq => ?_)
          have hqq : q < w.heap.size := own_lt h0 q hq
          show (w.drew.alloc _).heap[q]? = _
          rw [Below.heap_alloc _ _ _ (by simp; omega)]
          rfl
theorem wpList_append_keep {ops : Array Oper} {rest : List Oper} {o : Oper} {a : Act} {w : World} {Q : Exit → Act → World → Prop} (hgd : o.guard = none) (s x : Operand) (t : TypeId)
    (ho : o.op = .call { callee := .builtin .append, args := #[s, x], argTypes := #[t, t] })
    (base : Nat) (e : TypeId) (z : Value) (bytes : Nat) (ht : P.underlying t = some (.slice e)) (hinfo : (P.info? e).map (fun i => (i.zero, i.size, i.bytes)) = some (some z, 1, bytes)) (hzs : z.cells.size = 1)
    (v : Value) (n : Nat) (xs : List Value) (hs : a.eval s = v) (hown : w.ownsRow base e 1 v n xs)
    (ad : Addr) (m c : Nat) (news : List Value) (hx : a.eval x = .slice (some ad) m c) (hl : news.length = m) (hnews : ∀ j u, news[j]? = some u → w.cell? (ad.add j) = some u) (h1 : ∀ u ∈ news, u.oneCell' = true)
    (h63 : n + m ≤ maxLen) (hbytes : (n + m) * bytes ≤ 140737488355328) (hbase : base ≤ w.heap.size)
    (h : ∀ v' w', w'.ownsRow base e 1 v' (n + m) (xs ++ news) → w.grownBy w' v.ownBlock → (v'.ownBlock = v.ownBlock ∨ v'.ownBlock = some w.heap.size) → (∀ v0 n0 xs0, n0 ≤ n → w.ownsRow base e 1 v0 n0 xs0 → w'.ownsRow base e 1 v0 n0 xs0) → wpList P ops Q rest (a.put o.dst v') w') :
    wpList P ops Q (o :: rest) a w := by
  obtain ⟨i0, hi, hzz⟩ := Option.map_eq_some_iff.1 hinfo
  simp only [Prod.mk.injEq] at hzz
  obtain ⟨hz0, hz1, hz2⟩ := hzz
  obtain ⟨v', w', hrun, h2, h3, h4, h5⟩ := run_append_keep (P := P) w base t o.type e i0 z bytes ht hi hz0 hz1 hz2 hzs v n xs hown ad m c news hl hnews h1 h63 hbytes hbase
  refine wpList_plain hgd fun K hK => ?_
  unfold Oper.wp
  simp [execOp, ho, resolve, invoke, builtin, hs, hx, hrun, Result.andThen]
  exact hK _ _ (h v' w' h2 h3 h4 h5)
end
end Go.Proofs.Ytkoofoglcheonaa
