/- How arguments that come in read as kinds: down from the reader's datum to what the walks ask. -/
import Derived.Test.YtgpnfgjmdehfdaaWWords
import Derived.Deep.Slices
import Derived.SizedLaws
namespace Go.Proofs.Ytgpnfgjmdehfdaa
set_option linter.unusedVariables false
set_option linter.unusedSimpArgs false
open Go.RowKit Go.Proofs.YtgpnfgjmdehfdaaW.PrintWords

/-- Cells that the reader reads at type t are of kind d; what the values' sizes and kinds say besides: sm. -/
def Opens (P : Program) (t : TypeId) {α : Type} (d : Kd α) (sm : α → Prop) : Prop :=
  ∀ (H : Type) (enc : TypeId × Value → H) (w : World) (held : Bool) (fuel : Nat) (cs : List Value) (x : DataW H × List MemPlace),
    DataW.trod enc P w 0 (fun _ => true) held fuel t cs = some x → (∀ n ∈ DataW.weights P t x.1, n ≤ reachBytes) → ∃ a, d.K w a cs ∧ sm a

theorem opens_int {P : Program} {t : TypeId} {k : IntKind} (ht : P.underlying t = some (.int k)) : Opens P t (Kd.int k) (fun n => (Lit.int k n).wf = true) := by
  intro H enc w held fuel cs x h _
  obtain ⟨n, rfl, _, hw⟩ := DataW.trod_int ht h
  exact ⟨n, rfl, hw⟩
theorem opens_bool {P : Program} {t : TypeId} (ht : P.underlying t = some .bool) : Opens P t Kd.bool (fun _ => True) := by
  intro H enc w held fuel cs x h _
  obtain ⟨n, rfl, _⟩ := DataW.trod_bool ht h
  exact ⟨n, rfl, trivial⟩
theorem list_choose {α : Type} {q : Nat → α → Prop} : ∀ (n : Nat), (∀ i, i < n → ∃ x, q i x) → ∃ xs : List α, xs.length = n ∧ ∀ i x, xs[i]? = some x → q i x
  | 0, _ => ⟨[], rfl, fun i x h => by simp at h⟩
  | n + 1, h => by
    obtain ⟨xs, hl, hx⟩ := list_choose n (fun i hi => h i (by omega))
    obtain ⟨y, hy⟩ := h n (by omega)
    refine ⟨xs ++ [y], by simp [hl], fun i x hi => ?_⟩
    by_cases hin : i < n
    · rw [List.getElem?_append_left (by omega)] at hi
      exact hx i x hi
    · rw [List.getElem?_append_right (by omega)] at hi
      have := (List.getElem?_eq_some_iff.1 hi).1
      simp at this
      obtain rfl : i = n := by omega
      rw [hl] at hi
      simp at hi
      subst hi
      exact hy
theorem weights_elem {H : Type} {P : Program} {e : TypeId} {f : Nat → DataW H} : ∀ {n i : Nat}, i < n → ∀ m ∈ DataW.weights P e (f i), m ∈ DataW.weightsAll P e ((List.range n).map f) := by
  have key : ∀ (l : List (DataW H)) (d : DataW H), d ∈ l → ∀ m ∈ DataW.weights P e d, m ∈ DataW.weightsAll P e l := by
    intro l
    induction l with
    | nil => intro d hd; simp at hd
    | cons x l ih =>
      intro d hd m hm
      simp only [DataW.weightsAll, List.mem_append]
      rcases List.mem_cons.1 hd with rfl | hd
      · exact .inl hm
      · exact .inr (ih d hd m hm)
  intro n i hi m hm
  exact key _ _ (List.mem_map.2 ⟨i, List.mem_range.2 hi, rfl⟩) m hm
theorem opens_slice {P : Program} {t e : TypeId} {α : Type} {d : Kd α} {sm : α → Prop} (ht : P.underlying t = some (.slice e)) (hc : P.cellsOf e = d.sz) (he : Opens P e d sm) :
    Opens P t (Kd.slice e d) (fun xs => xs.length * P.bytesOf e ≤ reachBytes ∧ ∀ x ∈ xs, sm x) := by
  intro H enc w held fuel cs x h hw
  rcases Deep.open_slice ht h with ⟨rfl, rfl⟩ | ⟨a, len, cap, m, n, D, Pl, rfl, hb, hl, hm, hmm, rfl, hx⟩
  · exact ⟨[], ⟨none, 0, rfl, Nat.le_refl _, rfl, by simp, fun h0 => absurd h0 (by simp)⟩, by simp, fun x hx => by simp at hx⟩
  · simp only [if_true] at hmm
    subst hmm
    obtain ⟨xs, hlen, hxs⟩ := list_choose (q := fun i (y : α) => ∃ cs', w.cells? 0 (a.add (i * P.cellsOf e)) (P.cellsOf e) = some cs' ∧ d.K w y cs' ∧ sm y) len (fun i hi => by
      obtain ⟨cs', h1, h2⟩ := hx i (by omega)
      obtain ⟨y, hy, hs⟩ := he H enc w held n cs' (D i, Pl i) h2 (fun q hq => hw q (by
        simp only [DataW.weights, ht, List.mem_cons, List.mem_append]
        exact .inr (.inl (weights_elem hi q hq))))
      exact ⟨y, cs', h1, hy, hs⟩)
    refine ⟨xs, ⟨some a, m, by rw [hlen], by omega, rfl, by simp only [maxLen] at hm; omega, fun _ => ⟨a, rfl, fun j p hp => ?_⟩⟩, ?_, fun y hy => ?_⟩
    · obtain ⟨cs', h1, h2, _⟩ := hxs j p hp
      obtain ⟨_, h3, h4⟩ := World.cells?_some h1
      refine ⟨cs', by rw [h3, hc], h2, fun i u hu => ?_⟩
      have hi : i < P.cellsOf e := by have := (List.getElem?_eq_some_iff.1 hu).1; omega
      have := h4 i hi
      rw [Deep.add_add, hc] at this
      rw [this, hu]
    · have := hw ((len + (m - len)) * P.bytesOf e) (by simp [DataW.weights, ht])
      refine Nat.le_trans (Nat.mul_le_mul_right _ ?_) this
      omega
    · obtain ⟨i, hi, rfl⟩ := List.mem_iff_getElem.1 hy
      obtain ⟨_, _, _, hs⟩ := hxs i xs[i] (List.getElem?_eq_getElem hi)
      exact hs

/-- Fields one behind the other, from a place on. -/
def OpensAt (P : Program) (fs : List Field) (off : Nat) {α : Type} (d : Kd α) (sm : α → Prop) : Prop :=
  ∀ (H : Type) (enc : TypeId × Value → H) (w : World) (held : Bool) (n : Nat) (cs : List Value), cs.length = off + d.sz →
    (∀ f ∈ fs, ∃ x, DataW.trod enc P w 0 (fun _ => true) held n f.type ((cs.drop f.offset).take (P.cellsOf f.type)) = some x ∧ ∀ q ∈ DataW.weights P f.type x.1, q ≤ reachBytes) → ∃ a, d.K w a (cs.drop off) ∧ sm a
theorem opensAt_one {P : Program} {f : Field} {off : Nat} {α : Type} {d : Kd α} {sm : α → Prop} (ho : f.offset = off) (hc : P.cellsOf f.type = d.sz) (h : Opens P f.type d sm) : OpensAt P [f] off d sm := by
  intro H enc w held n cs hl hf
  obtain ⟨x, hx, hq⟩ := hf f (by simp)
  rw [ho, hc, List.take_of_length_le (by rw [List.length_drop]; omega)] at hx
  exact h H enc w held n _ x hx hq
theorem opensAt_cons {P : Program} {f : Field} {fs : List Field} {off : Nat} {α β : Type} {d : Kd α} {e : Kd β} {sm : α → Prop} {sm' : β → Prop} (ho : f.offset = off) (hc : P.cellsOf f.type = d.sz)
    (h : Opens P f.type d sm) (hs : OpensAt P fs (off + d.sz) e sm') : OpensAt P (f :: fs) off (Kd.pair d e) (fun x => sm x.1 ∧ sm' x.2) := by
  intro H enc w held n cs hl hf
  obtain ⟨x, hx, hq⟩ := hf f (by simp)
  rw [ho, hc] at hx
  obtain ⟨a, ha, h1⟩ := h H enc w held n _ x hx hq
  obtain ⟨b, hb, h2⟩ := hs H enc w held n cs (by rw [hl]; show off + (d.sz + e.sz) = _; omega) (fun g hg => hf g (List.mem_cons_of_mem _ hg))
  refine ⟨(a, b), ⟨_, _, ?_, ha, hb⟩, h1, h2⟩
  rw [← List.drop_drop, List.take_append_drop]
theorem weights_each {H : Type} {P : Program} : ∀ {ts : List TypeId} {ds : List (DataW H)} {i : Nat} {t : TypeId} {d : DataW H}, ts[i]? = some t → ds[i]? = some d → ∀ n ∈ d.weights P t, n ∈ DataW.weightsEach P ts ds := fun ht hd n hn => DataW.weights_mem_each ht hd n hn
theorem opens_struct {P : Program} {t : TypeId} {fs : Array Field} {α : Type} {d : Kd α} {sm : α → Prop} (ht : P.underlying t = some (.struct fs)) (hc : P.cellsOf t = d.sz) (h : OpensAt P fs.toList 0 d sm) : Opens P t d sm := by
  intro H enc w held fuel cs x hx hw
  obtain ⟨xs, n, rfl, rfl, hl, hsz, hf⟩ := DataW.trod_struct ht hx
  have := h H enc w held n cs (by rw [hl, hc]; omega) (fun f hm => by
    obtain ⟨i, hi, rfl⟩ := List.mem_iff_getElem.1 hm
    have hi' : i < xs.length := by rw [hsz]; simpa using hi
    have h1 := hf i fs.toList[i] (by simp)
    rw [List.getElem?_eq_getElem hi'] at h1
    refine ⟨xs[i], h1, fun q hq => hw q ?_⟩
    simp only [DataW.weights, ht]
    exact weights_each (i := i) (t := fs.toList[i].type) (d := xs[i].1) (by rw [List.getElem?_map, List.getElem?_eq_getElem hi]; rfl) (by rw [List.getElem?_map, List.getElem?_eq_getElem hi']; rfl) q hq)
  simpa using this
/-- The same kind by another name of its fields. -/
theorem opens_iso {P : Program} {t : TypeId} {α β : Type} {d : Kd α} {sm : α → Prop} (f : β → α) (g : α → β) (hfg : ∀ x, f (g x) = x) (h : Opens P t d sm) : Opens P t (Kd.iso d f) (fun y => sm (f y)) := by
  intro H enc w held fuel cs x hx hw
  obtain ⟨a, ha, hs⟩ := h H enc w held fuel cs x hx hw
  exact ⟨g a, by show d.K w (f (g a)) cs; rw [hfg]; exact ha, by show sm (f (g a)); rw [hfg]; exact hs⟩
theorem opens_arg {P : Program} {t : TypeId} {α : Type} {d : Kd α} {sm : α → Prop} (h : Opens P t d sm) {H : Type} {enc : TypeId × Value → H} {w : World} {held : Bool} {v : Value} {x : DataW H} {p : List MemPlace}
    (hx : DataW.Trod enc P w 0 (fun _ => true) held t v x p) (hw : ∀ n ∈ DataW.weights P t x, n ≤ reachBytes) : ∃ a, d.K w a v.cells.toList ∧ sm a := by
  obtain ⟨fuel, hf⟩ := hx
  exact h H enc w held fuel _ _ hf hw
theorem weights_arg {H : Type} {P : Program} {ts : List TypeId} {ds : List (DataW H)} (h : (DataW.weightsEach P ts ds).all (· ≤ reachBytes) = true) {j : Nat} {t : TypeId} {d : DataW H} (ht : ts[j]? = some t) (hd : ds[j]? = some d) :
    ∀ n ∈ DataW.weights P t d, n ≤ reachBytes := fun n hn => by
  have := List.all_eq_true.1 h n (weights_each ht hd n hn)
  simpa using this
end Go.Proofs.Ytgpnfgjmdehfdaa
