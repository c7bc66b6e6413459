/- What FrameTells keeps: frames of lent data, the data of what was got, what Put tells. -/
import Derived.Test.YtkoofoglcheonaaFlB
namespace Go.Proofs.Ytkoofoglcheonaa
set_option linter.unusedVariables false
set_option linter.unusedSimpArgs false
open Go.RowKit Go.Proofs.YtkoofoglcheonaaW.PrintWords

/-- Data that was lent. -/
def lentK : Kd (List UInt8) where
  sz := 1
  E := [5]
  K := bytes.K
  M := fun w base ok x cs => ∃ v, cs = [v] ∧ Lent w base v x ∧ ∀ k, v.ownBlock = some k → ok k
  K_len := bytes.K_len
  K_one := bytes.K_one
  K_below := bytes.K_below
  K_of_M := fun h => by
    obtain ⟨v, rfl, h, _⟩ := h
    obtain ⟨A, c, rfl, hl, hC⟩ := h.reads
    exact ⟨A, c, rfl, hl, hC⟩
  M_mono := fun hok h => by
    obtain ⟨v, rfl, h, hk⟩ := h
    exact ⟨v, rfl, h, fun k hv => hok k (hk k hv)⟩
  M_bound := fun h => by
    obtain ⟨v, rfl, ⟨g, c, rfl, h⟩, hk⟩ := h
    refine ⟨_, rfl, ⟨g, c, rfl, h⟩, fun k hv => ⟨hk k hv, ?_, own_lt h k hv, 5, by simp, own_typed h k hv⟩⟩
    exact own_base h k hv
  M_move := fun hm h => by
    obtain ⟨v, rfl, ⟨g, c, rfl, h⟩, hk⟩ := h
    exact ⟨_, rfl, ⟨g, c, rfl, own_move h (fun k hv => hm k (hk k hv))⟩, hk⟩
  M_lower := fun hb h => by
    obtain ⟨v, rfl, h, hk⟩ := h
    exact ⟨v, rfl, h.mono hb, hk⟩
def lfK : Kd Fr := Kd.iso (Kd.pair (Kd.int .i64) lentK) (fun x : Fr => (x.k, x.d))
theorem lf_open {w : World} {base : Nat} {ok : Nat → Prop} {x : Fr} {cs : List Value} (h : lfK.M w base ok x cs) : ∃ v, cs = [.int .i64 x.k, v] ∧ Lent w base v x.d ∧ ∀ k, v.ownBlock = some k → ok k := by
  obtain ⟨_, _, rfl, rfl, ⟨v1, rfl, g1, g2⟩⟩ := h
  exact ⟨v1, rfl, g1, g2⟩
theorem lf_mk {w : World} {base : Nat} {ok : Nat → Prop} {x : Fr} {v : Value} (g : Lent w base v x.d) (hk : ∀ k, v.ownBlock = some k → ok k) : lfK.M w base ok x [.int .i64 x.k, v] := ⟨[.int .i64 x.k], [v], rfl, rfl, ⟨v, rfl, g, hk⟩⟩
theorem lf_C {w : World} {A : Option Addr} {n : Nat} {l : List Fr} (h : lfK.C w A n l) : frK.C w A n l := h
/-- The lent frame's cells. -/
theorem lf_at {w : World} {base : Nat} {ok : Nat → Prop} {A : Option Addr} {n c : Nat} {l : List Fr} (h : lfK.R 44 w base ok (.slice A n c) l) {j : Nat} {x : Fr} (hx : l[j]? = some x) :
    ∃ ad u, A = some ad ∧ w.cell? ⟨(ad.add (j * 2)).block, (ad.add (j * 2)).off + 1, none⟩ = some u ∧ Lent w base u x.d := by
  obtain ⟨_, inner, ho, hr⟩ := h
  have hj := (List.getElem?_eq_some_iff.1 hx).1
  obtain ⟨v, hcs, hl, _⟩ := lf_open (hr.2 j x hx)
  obtain ⟨g, cap, hve, _, _⟩ := ho.form (by omega)
  injection hve with hA _ _
  subst hA
  refine ⟨_, v, rfl, ?_, hl⟩
  have h1 : inner[j * 2 + 1]? = some v := by
    have h2 : ((inner.drop (j * 2)).take 2)[1]? = some v := by
      have h3 : (inner.drop (j * lfK.sz)).take lfK.sz = (inner.drop (j * 2)).take 2 := rfl
      rw [← h3, hcs]
      rfl
    rw [List.getElem?_take, if_pos (by omega), List.getElem?_drop] at h2
    exact h2
  have h2 := ho.cells (g := g) rfl (j * 2 + 1) v h1
  rw [← add_field _ _ 1 (by omega)]
  exact h2
theorem lf_one {W : World} {base : Nat} {okp : Nat → Prop} {f : Fr} {v : Value} {e : TypeId} (hM : lfK.M W base okp f [.int .i64 f.k, v]) :
    ReadsRow (lfK.M (W.alloc (.cells #[.int .i64 f.k, v] e)) base okp) lfK.sz (W.alloc (.cells #[.int .i64 f.k, v] e)) (some ⟨W.heap.size, 0, none⟩) 1 [f] := by
  have hb := blk_new W (.cells #[.int .i64 f.k, v] e)
  refine ⟨rfl, by omega, fun _ => ⟨_, rfl, fun j p hp => ?_⟩⟩
  match j, hp with
  | 0, hp =>
    cases hp
    refine ⟨[.int .i64 f.k, v], rfl, Kd.M_below hM (In.alloc (In.refl _) _).out, fun i u hu => ?_⟩
    rw [show (0 * lfK.sz + i) = i from by omega, add_plain, blk_cell hb i, ← hu, List.getElem?_toArray]
theorem lf_one_drew {W : World} {base : Nat} {okp : Nat → Prop} {f : Fr} {v : Value} {e : TypeId} (hM : lfK.M W base okp f [.int .i64 f.k, v]) :
    ReadsRow (lfK.M ((W.alloc (.cells #[.int .i64 f.k, v] e)).drew) base okp) lfK.sz ((W.alloc (.cells #[.int .i64 f.k, v] e)).drew) (some ⟨W.heap.size, 0, none⟩) 1 [f] :=
  ReadsRow.imp_ (lf_one hM) (In.drew (In.refl _)).out (fun _ _ hp => Kd.M_below hp (In.drew (In.refl _)).out)
/-- The data of frames of one's own, no two in one block. -/
theorem S_datas {w : World} {base : Nat} {ok : Nat → Prop} {A : Option Addr} {n c : Nat} {xs : List Fr} (h : Kd.S frK 44 w base ok (.slice A n c) xs) :
    ∃ ds : List Value, ds.length = xs.length ∧
      (∀ (j : Nat) (x : Fr), xs[j]? = some x → ∃ ad u, A = some ad ∧ ds[j]? = some u ∧ w.cell? ⟨(ad.add (j * 2)).block, (ad.add (j * 2)).off + 1, none⟩ = some u ∧ w.ownsRow base 5 1 u x.d.length (encs encB x.d) ∧ ∀ q, u.ownBlock = some q → ok q) ∧
      ∀ (i j : Nat) (u v : Value), i ≠ j → ds[i]? = some u → ds[j]? = some v → ∀ q, u.ownBlock = some q → v.ownBlock ≠ some q := by
  obtain ⟨f, _, inner, ho, hr⟩ := h
  rw [List.length_zipIdx] at ho
  have hel : ∀ (j : Nat) (x : Fr), xs[j]? = some x → ∃ u, inner[j * 2 + 1]? = some u ∧ byte.R 5 w base (fun k => (ok k ∧ some k ≠ (Value.slice A n c).ownBlock) ∧ f k = j) u x.d := fun j x hx => by
    obtain ⟨v, hcs, hv⟩ := frK_openM (hr.2 j (x, j) (Kd.zip_at hx))
    refine ⟨v, ?_, hv⟩
    have h2 : ((inner.drop (j * 2)).take 2)[1]? = some v := by
      have h3 : (inner.drop (j * (Kd.tag f frK).sz)).take (Kd.tag f frK).sz = (inner.drop (j * 2)).take 2 := rfl
      rw [← h3, hcs]
      rfl
    rw [List.getElem?_take, if_pos (by omega), List.getElem?_drop] at h2
    exact h2
  have hds : ∀ (j : Nat) (u : Value), ((List.range xs.length).map (fun j => inner.getD (j * 2 + 1) (.slice none 0 0)))[j]? = some u → ∃ x, xs[j]? = some x ∧ inner[j * 2 + 1]? = some u := fun j u hu => by
    have hl : j < xs.length := by
      have h9 := (List.getElem?_eq_some_iff.1 hu).1
      rwa [List.length_map, List.length_range] at h9
    obtain ⟨u', h1, _⟩ := hel j _ (List.getElem?_eq_getElem hl)
    refine ⟨_, List.getElem?_eq_getElem hl, ?_⟩
    rw [List.getElem?_map, List.getElem?_range hl] at hu
    simp only [Option.map_some, Option.some.injEq] at hu
    rw [List.getD_eq_getElem?_getD, h1] at hu
    rw [h1, ← hu]
    rfl
  refine ⟨(List.range xs.length).map (fun j => inner.getD (j * 2 + 1) (.slice none 0 0)), by simp, fun j x hx => ?_, fun i j u v hij hu hv q hq hq2 => ?_⟩
  · obtain ⟨u, h1, h2⟩ := hel j x hx
    have hl := (List.getElem?_eq_some_iff.1 hx).1
    obtain ⟨g, cap, hve, _, _⟩ := ho.form (by omega)
    injection hve with hA _ _
    subst hA
    refine ⟨_, u, rfl, ?_, ?_, Kd.own_of_R h2, fun q hq => (h2.1 q hq).1.1⟩
    · rw [List.getElem?_map, List.getElem?_range hl]
      simp only [Option.map_some]
      rw [List.getD_eq_getElem?_getD, h1]
      rfl
    · rw [← add_field _ _ 1 (by omega)]
      exact ho.cells (g := g) rfl (j * 2 + 1) u h1
  · obtain ⟨x, hx, h1⟩ := hds i u hu
    obtain ⟨y, hy, h2⟩ := hds j v hv
    obtain ⟨u', h3, h4⟩ := hel i x hx
    obtain ⟨v', h5, h6⟩ := hel j y hy
    rw [h1] at h3
    rw [h2] at h5
    cases h3
    cases h5
    have e1 := (h4.1 q hq).2
    have e2 := (h6.1 q hq2).2
    omega
/-- What Put tells, either way. -/
def Frm.told (l : List Fr) : List UInt8 := if Frm.putE l = 0 then Frm.flat l else []
theorem Frm.told_len (l : List Fr) : (Frm.told l).length ≤ Frm.size l := by
  unfold Frm.told
  split
  · rw [Frm.flat_length]
    omega
  · simp
theorem Puts.uni {l : List Fr} {w w' : World} {e : Ending} (h : Puts l w e w') : ∃ v, e = .returned (.tuple #[v, .int .i64 (Frm.putE l)]) ∧ Mine w w' v (Frm.told l) ∧ In w w' := by
  obtain ⟨hi, ⟨h0, v, he, hm⟩ | ⟨h0, he⟩⟩ := h
  · exact ⟨v, by rw [he, h0]; rfl, by unfold Frm.told; rw [if_pos h0]; exact hm, hi⟩
  · exact ⟨_, he, by unfold Frm.told; rw [if_neg h0]; exact Mine.nil _ _, hi⟩
/-- Two rows and the data of frames, as rows that lie apart. -/
theorem flat_all {w : World} {s u : Value} {t : List UInt8} {ds : List Value} {xs : List Fr} {A : Option Addr} {c b1 b2 b3 b4 : Nat} (hs : w.ownsRow b1 5 1 s t.length (encs encB t)) (hsl : ∀ q, s.ownBlock = some q → q < b2)
    (hu : w.ownsRow b2 5 1 u t.length (encs encB t)) (hul : ∀ q, u.ownBlock = some q → q < b3) (h23 : b2 ≤ b3) (hlen : ds.length = xs.length)
    (hx : ∀ (j : Nat) (x : Fr), xs[j]? = some x → ∃ u, ds[j]? = some u ∧ w.ownsRow b3 5 1 u x.d.length (encs encB x.d) ∧ x.d.length ≤ 1000000)
    (hap : ∀ (i j : Nat) (u v : Value), i ≠ j → ds[i]? = some u → ds[j]? = some v → ∀ q, u.ownBlock = some q → v.ownBlock ≠ some q)
    (ht : t.length ≤ 1000000) (hxl : xs.length ≤ 900000) (ho : w.ownsRow b4 34 1 (.slice A (s :: u :: ds).length c) (s :: u :: ds).length (s :: u :: ds))
    (h4 : ∀ (k : Nat) (v : Value), (s :: u :: ds)[k]? = some v → ∀ q, v.ownBlock = some q → q < b4) : Flat w A (s :: u :: ds) (t :: t :: xs.map (·.d)) := by
  have hdx : ∀ (j : Nat) (v : Value), ds[j]? = some v → ∃ x, xs[j]? = some x ∧ w.ownsRow b3 5 1 v x.d.length (encs encB x.d) ∧ x.d.length ≤ 1000000 := fun j v hv => by
    have hl := (List.getElem?_eq_some_iff.1 hv).1
    have hj : xs[j]? = some (xs[j]'(by omega)) := List.getElem?_eq_getElem _
    obtain ⟨v', h1, h2⟩ := hx j _ hj
    rw [hv] at h1
    cases h1
    exact ⟨_, hj, h2⟩
  have hlow : ∀ (j : Nat) (v : Value), ds[j]? = some v → ∀ q, v.ownBlock = some q → b3 ≤ q := fun j v hv q hq => by
    obtain ⟨x, _, h2, _⟩ := hdx j v hv
    exact own_base h2 q hq
  refine ⟨by simp [hlen], by simp; omega, fun k v hv => ?_, fun ad had k v hv he => ?_, fun k v ys hv hy => ?_, fun i j p v hij hp hv q hq hq2 => ?_⟩
  · obtain ⟨g, cap, hve, _, hgl⟩ := ho.form (by simp)
    injection hve with hA _ _
    subst hA
    exact ⟨_, rfl, hgl, ho.cells (g := g) rfl k v hv⟩
  · subst had
    obtain ⟨g, cap, hve, hbg, _⟩ := ho.form (by simp)
    injection hve with hA _ _
    injection hA with hA
    subst hA
    have := h4 k v hv _ he
    simp at this
    omega
  · match k, hv, hy with
    | 0, hv, hy =>
      simp at hv hy
      subst hv hy
      exact ⟨own_weaken hs (Nat.zero_le _), ht⟩
    | 1, hv, hy =>
      simp at hv hy
      subst hv hy
      exact ⟨own_weaken hu (Nat.zero_le _), ht⟩
    | j + 2, hv, hy =>
      simp only [List.getElem?_cons_succ] at hv hy
      obtain ⟨x, h1, h2, h3⟩ := hdx j v hv
      rw [List.getElem?_map, h1] at hy
      simp at hy
      subst hy
      exact ⟨own_weaken h2 (Nat.zero_le _), h3⟩
  · match i, j, hp, hv, hij with
    | 0, 0, _, _, hij => exact hij rfl
    | 1, 1, _, _, hij => exact hij rfl
    | 0, 1, hp, hv, _ =>
      simp at hp hv
      subst hp hv
      have := hsl q hq
      have := own_base hu q hq2
      omega
    | 1, 0, hp, hv, _ =>
      simp at hp hv
      subst hp hv
      have := hsl q hq2
      have := own_base hu q hq
      omega
    | 0, j + 2, hp, hv, _ =>
      simp at hp
      subst hp
      simp only [List.getElem?_cons_succ] at hv
      have := hsl q hq
      have := hlow j v hv q hq2
      omega
    | 1, j + 2, hp, hv, _ =>
      simp at hp
      subst hp
      simp only [List.getElem?_cons_succ] at hv
      have := hul q hq
      have := hlow j v hv q hq2
      omega
    | i + 2, 0, hp, hv, _ =>
      simp at hv
      subst hv
      simp only [List.getElem?_cons_succ] at hp
      have := hsl q hq2
      have := hlow i p hp q hq
      omega
    | i + 2, 1, hp, hv, _ =>
      simp at hv
      subst hv
      simp only [List.getElem?_cons_succ] at hp
      have := hul q hq2
      have := hlow i p hp q hq
      omega
    | i + 2, j + 2, hp, hv, hij =>
      simp only [List.getElem?_cons_succ] at hp hv
      exact hap i j p v (by omega) hp hv q hq hq2
theorem inRows_all {s u : Value} {ds : List Value} {q : Nat} {S : Nat → Prop} (h : InRows (s :: u :: ds) q) (hs : ∀ q, s.ownBlock = some q → S q) (hu : ∀ q, u.ownBlock = some q → S q) (hd : ∀ (j : Nat) (v : Value), ds[j]? = some v → ∀ q, v.ownBlock = some q → S q) : S q := by
  obtain ⟨k, v, hv, hq⟩ := h
  match k, hv with
  | 0, hv =>
    simp at hv
    subst hv
    exact hs q hq
  | 1, hv =>
    simp at hv
    subst hv
    exact hu q hq
  | j + 2, hv =>
    simp only [List.getElem?_cons_succ] at hv
    exact hd j v hv q hq
theorem Lent.move {w w1 : World} {base : Nat} {v : Value} {xs : List UInt8} {S : Nat → Prop} (h : Lent w base v xs) (hk : Kept w w1 S) (hS : ∀ q, v.ownBlock = some q → ¬ S q) : Lent w1 base v xs := by
  obtain ⟨g, c, rfl, ho⟩ := h
  exact ⟨g, c, rfl, own_kept ho hk hS⟩
theorem Lent.lt {w : World} {base : Nat} {v : Value} {xs : List UInt8} (h : Lent w base v xs) : ∀ q, v.ownBlock = some q → base ≤ q ∧ q < w.heap.size := by
  obtain ⟨g, c, rfl, ho⟩ := h
  exact fun q hq => ⟨own_base ho q hq, own_lt ho q hq⟩
end Go.Proofs.Ytkoofoglcheonaa
