/- The marking walk over lists of bytes that lie apart. -/
import Derived.Test.YtkoofoglcheonaaFlK
import Derived.Deep.RegionLaw
namespace Go.Proofs.Ytkoofoglcheonaa
set_option linter.unusedVariables false
set_option linter.unusedSimpArgs false
open Go.RowKit Go.Proofs.YtkoofoglcheonaaW.PrintWords

def mkRow (k n : Nat) : List UInt8 := (List.range n).map (markB k)
theorem mkRow_length (k n : Nat) : (mkRow k n).length = n := by simp [mkRow]
theorem mkRow_get {k n i : Nat} (h : i < n) : (mkRow k n)[i]? = some (markB k i) := by simp [mkRow, h]
theorem mkRow_getD {k n i : Nat} (h : i < n) : (mkRow k n).getD i 0 = markB k i := by rw [List.getD_eq_getElem?_getD, mkRow_get h]; rfl
theorem mkRow_snoc (k n : Nat) : mkRow k (n + 1) = mkRow k n ++ [markB k n] := by simp [mkRow, List.range_succ]
/-- Rows of one's own, each in a block of its own. -/
structure Flat (W : World) (A : Option Addr) (vs : List Value) (xss : List (List UInt8)) : Prop where
  len : vs.length = xss.length
  small : vs.length ≤ 1000000
  cells : ∀ (k : Nat) (v : Value), vs[k]? = some v → ∃ ad, A = some ad ∧ ad.block < W.heap.size ∧ W.cell? (ad.add k) = some v
  away : ∀ (ad : Addr), A = some ad → ∀ (k : Nat) (v : Value), vs[k]? = some v → v.ownBlock ≠ some ad.block
  own : ∀ (k : Nat) (v : Value) (xs : List UInt8), vs[k]? = some v → xss[k]? = some xs → W.ownsRow 0 5 1 v xs.length (encs encB xs) ∧ xs.length ≤ 1000000
  apart : ∀ (i j : Nat) (u v : Value), i ≠ j → vs[i]? = some u → vs[j]? = some v → ∀ q, u.ownBlock = some q → v.ownBlock ≠ some q
/-- The blocks that may be written over. -/
def InRows (vs : List Value) (q : Nat) : Prop := ∃ (k : Nat) (v : Value), vs[k]? = some v ∧ v.ownBlock = some q
theorem own_kept {W w : World} {S : Nat → Prop} {base e size n : Nat} {v : Value} {xs : List Value} (h : W.ownsRow base e size v n xs) (hk : Kept W w S) (hS : ∀ q, v.ownBlock = some q → ¬ S q) : w.ownsRow base e size v n xs :=
  own_move h (fun q hq => hk.2 q (own_lt h q hq) (hS q hq))
theorem addr_block (ad : Addr) (k : Nat) : (ad.add k).block = ad.block := by unfold Addr.add; split <;> rfl
theorem Flat.cell {W w : World} {A : Option Addr} {vs : List Value} {xss : List (List UInt8)} (h : Flat W A vs xss) (hk : Kept W w (InRows vs)) {k : Nat} {v : Value} (hv : vs[k]? = some v) : ∃ ad, A = some ad ∧ w.cell? (ad.add k) = some v := by
  obtain ⟨ad, rfl, hlt, hc⟩ := h.cells k v hv
  refine ⟨ad, rfl, cell_kept hc hk (fun ⟨j, u, hu, hq⟩ => ?_)⟩
  rw [addr_block] at hq
  exact h.away ad rfl j u hu hq
/-- The rows while they are marked: so many are. -/
def Marked (W : World) (vs : List Value) (xss : List (List UInt8)) (k : Nat) : Prop :=
  ∀ (i : Nat) (v : Value) (xs : List UInt8), vs[i]? = some v → xss[i]? = some xs → W.ownsRow 0 5 1 v xs.length (encs encB (if i < k then mkRow i xs.length else xs))
theorem set_mark {k j : Nat} {xs : List UInt8} (h : j < xs.length) : (mkRow k j ++ xs.drop j).set j (markB k j) = mkRow k (j + 1) ++ xs.drop (j + 1) := by
  rw [List.set_append_right _ _ (by rw [mkRow_length]; omega), mkRow_length, Nat.sub_self, List.drop_eq_getElem_cons h, List.set_cons_zero, mkRow_snoc, List.append_assoc]
  rfl
/-- What the grown rows read: so many are. -/
def Grown (W : World) (vs : List Value) (xss : List (List UInt8)) (gg : Nat) (G : Array Value) (k : Nat) (f : Nat → Nat → List UInt8) : Prop :=
  ∀ (i : Nat) (v : Value) (xs : List UInt8), i < k → vs[i]? = some v → xss[i]? = some xs →
    ∃ B c, G[i]? = some (.slice B (xs.length + 64) c) ∧ xs.length + 64 ≤ c ∧ Kd.F byte W (fun q => v.ownBlock = some q ∨ gg < q) B (xs.length + 64) (f i xs.length)
theorem Grown.step {w W W1 : World} {A : Option Addr} {vs : List Value} {xss : List (List UInt8)} {gg k : Nat} {G : Array Value} {f : Nat → Nat → List UInt8} (h : Grown W vs xss gg G k f) (hF : Flat w A vs xss) (hgg : w.heap.size ≤ gg)
    (hm : ∀ q, q < W.heap.size → q ≠ gg → (∀ v', vs[k]? = some v' → v'.ownBlock ≠ some q) → W1.heap[q]? = W.heap[q]?) : Grown W1 vs xss gg G k f := fun i v xs hi hv hx => by
  obtain ⟨B, c, h1, h2, h3⟩ := h i v xs hi hv hx
  refine ⟨B, c, h1, h2, Kd.F_step h3 (fun q hq hlt => hm q hlt ?_ ?_)⟩
  · rintro rfl
    rcases hq with hq | hq
    · have := own_lt (hF.own i v xs hv hx).1 _ hq
      omega
    · omega
  · intro v' hv' he
    have hkl := (List.getElem?_eq_some_iff.1 hv').1
    rcases hq with hq | hq
    · exact hF.apart i k v v' (by omega) hv hv' q hq he
    · have hx' : xss[k]? = some (xss[k]'(by have := hF.len; omega)) := List.getElem?_eq_getElem _
      have := own_lt (hF.own k v' _ hv' hx').1 _ he
      omega
theorem own_F {W : World} {base n c : Nat} {B : Option Addr} {ys : List UInt8} (h : W.ownsRow base 5 1 (.slice B n c) n (encs encB ys)) : Kd.F byte W (fun q => (Value.slice B n c).ownBlock = some q) B n ys :=
  fun W' hW => byte_of_reads (own_reads_of' (own_move h (fun q hq => hW q hq (own_lt h q hq))))
theorem Marked.set {W : World} {vs : List Value} {xss : List (List UInt8)} {n gg o : Nat} {u : Value} (h : Marked W vs xss n) (hne : ∀ (i : Nat) (v : Value), vs[i]? = some v → v.ownBlock ≠ some gg) : Marked (W.setCell ⟨gg, o, none⟩ u) vs xss n := fun i v xs hv hx =>
  own_move (h i v xs hv hx) (fun q hq => Below.heap_setCell _ _ _ q (fun he => hne i v hv (by rw [hq, he])))
theorem encs_one' (ys : List UInt8) : ∀ u ∈ encs encB ys, u.oneCell' = true := fun u hu => by
  obtain ⟨y, _, rfl⟩ := List.mem_map.1 hu
  rfl
theorem enc_one (y : UInt8) : ∀ u ∈ [encB y], u.oneCell' = true := fun u hu => by
  rw [List.mem_singleton] at hu
  subst hu
  rfl
set_option maxRecDepth 100000 in
set_option maxHeartbeats 6400000 in
theorem flatBytes_any {A : Option Addr} {c : Nat} {vs : List Value} {xss : List (List UInt8)} {w : World} (hF : Flat w A vs xss) :
    Calls Try.prog 59 #[.slice A vs.length c] w fun e w' => e = .returned (.bool true) ∧ Kept w w' (InRows vs) ∧ Below 0 w w' := by
  have hsmall := hF.small
  have hlen := hF.len
  have HF := Lib.hid hF
  have HLEN := Lib.hid hlen
  clear hF hlen
  go_enter Try.func59, Try.ntmps59
  go_wp2_with fail
  go_loopw [3, 4] (fun i _ wr => ∃ k : Nat, k ≤ vs.length ∧ i = .int .i64 k ∧ Marked wr vs xss k ∧ Kept w wr (InRows vs) ∧ Below 0 w wr) (fun i _ _ => vs.length - (intOf i).toNat)
  case atStart => exact ⟨0, by omega, rfl, fun i v xs hv hx => by rw [if_neg (by omega)]; exact (HF.out.own i v xs hv hx).1, Kept.refl _ _, Below.refl 0 _⟩
  case round =>
    obtain ⟨k, hk, rfl, hm, hkept, hbel⟩ := hrel
    by_cases hlt : k < vs.length
    · obtain ⟨v, hv⟩ : ∃ v, vs[k]? = some v := ⟨vs[k], List.getElem?_eq_getElem hlt⟩
      obtain ⟨xs, hx⟩ : ∃ xs, xss[k]? = some xs := ⟨xss[k]'(by have := HLEN.out; omega), List.getElem?_eq_getElem _⟩
      obtain ⟨ad, rfl, hc⟩ := HF.out.cell hkept hv
      have hown := hm k v xs hv hx
      rw [if_neg (Nat.lt_irrefl k)] at hown
      have hxl := (HF.out.own k v xs hv hx).2
      obtain ⟨B, cap, rfl⟩ := own_slice hown
      have HM := Lib.hid hm
      have HV := Lib.hid hv
      have HX := Lib.hid hx
      have HK := Lib.hid hkept
      have HBL := Lib.hid hbel
      have HO := Lib.hid hown
      clear hm hv hx hkept hbel hown
      go_wp2_with fail
      obtain ⟨wo, rfl⟩ : ∃ wo : World, wo = wr := ⟨_, rfl⟩
      go_loopw [4] (fun i wr => ∃ j : Nat, j ≤ xs.length ∧ i = .int .i64 j ∧ wr.ownsRow 0 5 1 (.slice B xs.length cap) xs.length (encs encB (mkRow k j ++ xs.drop j)) ∧ Kept wo wr (fun q => (Value.slice B xs.length cap).ownBlock = some q) ∧ Below 0 wo wr) (fun i _ => xs.length - (intOf i).toNat)
      case atStart => exact ⟨0, by omega, rfl, by simpa [mkRow] using HO.out, Kept.refl _ _, Below.refl 0 _⟩
      case round =>
        clear HO
        obtain ⟨j, hj, rfl, hown, hkept, hbel⟩ := hrel
        have hc2 : wr.cell? (ad.add k) = some (.slice B xs.length cap) := cell_kept hc hkept (fun hq => by
          rw [addr_block] at hq
          exact HF.out.away ad rfl k _ HV.out hq)
        have HO := Lib.hid hown
        have HKP := Lib.hid hkept
        have HBL2 := Lib.hid hbel
        clear hown hkept hbel hc
        by_cases hjl : j < xs.length
        · obtain ⟨g, cap2, hve, _, hgl⟩ := HO.out.form (by omega)
          injection hve with hB _ hcap
          subst hB
          have hzl : (mkRow k j ++ xs.drop j).length = xs.length := by rw [List.length_append, mkRow_length, List.length_drop]; omega
          have hob := own_byte HO.out j hjl
          generalize (mkRow k j ++ xs.drop j).getD j 0 = y at hob
          obtain ⟨hb0, hb1⟩ := hob
          have HPUT := Lib.hid (own_byte_put HO.out j (markB k j))
          rw [set_mark hjl] at HPUT
          have hmk := Lib.hid (fun W => markByte_any k j W (by omega) (by omega))
          generalize markB k j = mb at *
          clear hzl
          go_wp2_with fail
          go_region_law ((go_simp; go_at_call 41; refine Calls.mono (hmk.out _) ?_; rintro e wq ⟨rfl, rfl⟩))
          all_goals
            go_wp2_with fail
            go_roundw
            case rel => exact ⟨j + 1, by omega, by go_num, pw_own_below HPUT.out (In.drew (In.refl _)).out, Kept.drew (Kept.setCell (p := ⟨g, j, none⟩) HKP.out (.inl rfl) _), (Below.setCell (p := ⟨g, j, none⟩) HBL2.out (Nat.zero_le _) _).drew⟩
            case measure => simp [intOf]; omega
        · obtain rfl : j = xs.length := by omega
          rw [List.drop_length, List.append_nil] at HO
          go_wp2_with fail
          go_roundw
          case rel =>
            refine ⟨k + 1, by omega, by go_num, fun i v ys hv hy => ?_, HK.out.then_ HKP.out (fun q hq => .inl ⟨k, _, HV.out, hq⟩), HBL.out.trans HBL2.out⟩
            by_cases hik : i = k
            · subst hik
              obtain rfl : v = .slice B xs.length cap := by rw [HV.out] at hv; exact (Option.some.inj hv).symm
              obtain rfl : ys = xs := by rw [HX.out] at hy; exact (Option.some.inj hy).symm
              rw [if_pos (by omega)]
              exact HO.out
            · have h1 := HM.out i v ys hv hy
              have h2 := own_kept h1 HKP.out (fun q hq h3 => HF.out.apart i k v _ hik hv HV.out q hq h3)
              by_cases hlk : i < k
              · rw [if_pos hlk] at h2
                rw [if_pos (by omega)]
                exact h2
              · rw [if_neg hlk] at h2
                rw [if_neg (by omega)]
                exact h2
          case measure => simp [intOf]; omega
    · obtain rfl : k = vs.length := by omega
      have HM := Lib.hid hm
      have HK := Lib.hid hkept
      have HBL := Lib.hid hbel
      clear hm hkept hbel hlt
      have hmk := fun W => print_make_of (P := Try.prog) 22 34 (.slice none 0 0) 24 Try.underlying22 info34 rfl (by decide) vs.length (by omega) W
      have hbk := blk_new wr (.cells (madeCells #[.slice none 0 0] vs.length) 34)
      have hin := In.alloc (In.refl wr) (.cells (madeCells #[.slice none 0 0] vs.length) 34)
      go_wp2_with fail
      obtain ⟨gg, hgg⟩ : ∃ gg, gg = wr.heap.size := ⟨_, rfl⟩
      have hgw : w.heap.size ≤ gg := by rw [hgg]; exact HK.out.1
      rw [← hgg] at hbk ⊢
      clear hmk
      obtain ⟨w2, hw2⟩ : ∃ w2, w2 = wr.alloc (.cells (madeCells #[.slice none 0 0] vs.length) 34) := ⟨_, rfl⟩
      rw [← hw2] at hbk hin ⊢
      have hne : ∀ (i : Nat) (v : Value), vs[i]? = some v → v.ownBlock ≠ some gg := fun i v hv he => by
        have hil := (List.getElem?_eq_some_iff.1 hv).1
        have hx' : xss[i]? = some (xss[i]'(by have := HLEN.out; omega)) := List.getElem?_eq_getElem _
        have := own_lt (HF.out.own i v _ hv hx').1 _ he
        omega
      have HNE := Lib.hid hne
      have HM2 := Lib.hid (show Marked w2 vs xss vs.length from fun i v xs hv hx => pw_own_below (HM.out i v xs hv hx) hin.out)
      have HK2 := Lib.hid (HK.out.below hin.out)
      have HBL2 := Lib.hid (HBL.out.trans (Below.mono hin.out (Nat.zero_le _)))
      have HGB := Lib.hid hbk
      have hgl2 : gg < w2.heap.size := blk_lt hbk
      clear hbk hin hw2 HM HK HBL hgg hne
      go_loopw [6, 7, 8] (fun i _ _ wr => ∃ k : Nat, k ≤ vs.length ∧ i = .int .i64 k ∧ Hid (Marked wr vs xss vs.length) ∧ Hid (Kept w wr (InRows vs)) ∧ Hid (Below 0 w wr) ∧ ∃ G, Hid (wr.heap[gg]? = some (.cells G 34 (0, 0)) ∧ G.size = vs.length ∧ Grown wr vs xss gg G k (fun i n => mkRow i (n + 64)))) (fun i _ _ _ => vs.length - (intOf i).toNat)
      case atStart => exact ⟨0, by omega, rfl, HM2, HK2, HBL2, _, Lib.hid ⟨HGB.out, size_madeCells _ _, fun i v xs hi => by omega⟩⟩
      case round =>
        clear HM2 HK2 HBL2 HGB hgl2
        obtain ⟨k, hk, rfl, HM, HK, HBL, G, HG⟩ := hrel
        by_cases hlt : k < vs.length
        · obtain ⟨v, hv⟩ : ∃ v, vs[k]? = some v := ⟨vs[k], List.getElem?_eq_getElem hlt⟩
          obtain ⟨xs, hx⟩ : ∃ xs, xss[k]? = some xs := ⟨xss[k]'(by have := HLEN.out; omega), List.getElem?_eq_getElem _⟩
          obtain ⟨ad, rfl, hc⟩ := HF.out.cell HK.out hv
          have hown := HM.out k v xs hv hx
          rw [if_pos hlt] at hown
          have hxl := (HF.out.own k v xs hv hx).2
          obtain ⟨B, cap, rfl⟩ := own_slice hown
          have HV := Lib.hid hv
          have HX := Lib.hid hx
          have HO := Lib.hid hown
          have hrow : (Value.slice B xs.length cap).ownBlock ≠ some ad.block := HF.out.away ad rfl k _ hv
          have HRW := Lib.hid hrow
          have HAB := Lib.hid (show ad.block < w.heap.size by obtain ⟨ad', h1, h2, _⟩ := HF.out.cells k _ hv; injection h1 with h1; rw [h1]; exact h2)
          have hggr : gg < wr.heap.size := blk_lt HG.out.1
          clear hv hx hown hrow
          go_wp2_with fail
          obtain ⟨wo, rfl⟩ : ∃ wo : World, wo = wr := ⟨_, rfl⟩
          go_loopw [7, 8] (fun u i wr => ∃ j : Nat, j ≤ 64 ∧ i = .int .i64 j ∧ Hid (wr.ownsRow 0 5 1 u (xs.length + j) (encs encB (mkRow k (xs.length + j)))) ∧ Hid (wr.ownsRow 0 5 1 (.slice B xs.length cap) xs.length (encs encB (mkRow k xs.length))) ∧ Hid (Kept wo wr (fun q => (Value.slice B xs.length cap).ownBlock = some q)) ∧ Hid (Below 0 wo wr) ∧ Hid (u.ownBlock = (Value.slice B xs.length cap).ownBlock ∨ ∃ b, u.ownBlock = some b ∧ wo.heap.size ≤ b)) (fun _ i _ => 64 - (intOf i).toNat)
          case atStart => exact ⟨0, by omega, rfl, HO, HO, Lib.hid (Kept.refl _ _), Lib.hid (Below.refl 0 _), Lib.hid (.inl rfl)⟩
          case round =>
            clear HO
            obtain ⟨j, hj, rfl, HU, HO, HKP, HB2, HAT⟩ := hrel
            have hc2 : wr.cell? (ad.add k) = some (.slice B xs.length cap) := cell_kept hc HKP.out (fun hq => by
              rw [addr_block] at hq
              exact HRW.out hq)
            by_cases hjl : j < 64
            · have hmk := Lib.hid (fun W => markByte_any k (xs.length + j) W (by omega) (by omega))
              have hsn := Lib.hid (show encs encB (mkRow k (xs.length + (j + 1))) = encs encB (mkRow k (xs.length + j)) ++ [encB (markB k (xs.length + j))] by rw [← Nat.add_assoc, mkRow_snoc]; simp [encs])
              generalize markB k (xs.length + j) = mb at *
              have hcast : ((xs.length + j : Nat) : Int) = (xs.length : Int) + (j : Int) := by omega
              rw [hcast] at hmk
              clear hcast
              have hnew := blk_new wr (.cells #[encB mb] 5)
              have hW := In.alloc (In.refl wr) (.cells #[encB mb] 5)
              go_wp2_with fail
              refine (hmk.out _).mono ?_
              rintro e wq ⟨rfl, rfl⟩
              go_wp2_with (at_builtin; refine wpList_append_keep rfl (.tmp 57) (.tmp 67) 34 rfl 0 5 (.int .u8 0) 1 Try.underlying34 info5 rfl u7 (xs.length + j) (encs encB (mkRow k (xs.length + j))) rfl (pw_own_below HU.out hW.out) ⟨wr.heap.size, 0, none⟩ 1 1 [encB mb] rfl rfl (fun i u hu => by rw [add_plain]; exact (blk_cell hnew _).trans (by simpa using hu)) (enc_one mb) (by unfold maxLen; omega) (by omega) (Nat.zero_le _) ?_)
              intro v' w' ho' hg' hat' hkp'
              have HU' := Lib.hid (show w'.ownsRow 0 5 1 v' (xs.length + (j + 1)) (encs encB (mkRow k (xs.length + (j + 1)))) by rw [hsn.out, ← Nat.add_assoc]; exact ho')
              have HO' := Lib.hid (hkp' _ _ _ (Nat.le_add_right _ _) (pw_own_below HO.out hW.out))
              have HKP' := Lib.hid (Kept.of_grown hg' (HKP.out.below hW.out) (fun q hq => by
                rcases HAT.out with h | ⟨b, h, hb⟩
                · exact .inl (h.symm.trans hq)
                · rw [h] at hq
                  injection hq with hq
                  exact .inr (by omega)))
              have HB2' := Lib.hid ((HB2.out.trans (Below.mono hW.out (Nat.zero_le _))).grown hg' (Nat.zero_le _) (fun q hq => Nat.zero_le _))
              have HAT' := Lib.hid (show v'.ownBlock = (Value.slice B xs.length cap).ownBlock ∨ ∃ b, v'.ownBlock = some b ∧ wo.heap.size ≤ b by
                rcases hat' with h | h
                · rw [h]; exact HAT.out
                · exact .inr ⟨_, h, by have := HKP.out.1; omega⟩)
              clear ho' hg' hat' hkp' hnew hW hsn hmk hc2
              go_wp2_with fail
              go_roundw
              case rel => exact ⟨j + 1, by omega, by go_num, HU', HO', HKP', HB2', HAT'⟩
              case measure => simp [intOf]; omega
            · obtain rfl : j = 64 := by omega
              obtain ⟨Bu, cu, rfl⟩ := own_slice HU.out
              have hggb := blk_kept HG.out.1 HKP.out (fun hq => HNE.out k _ HV.out hq)
              have hgl := blk_lt hggb
              have hgsz := HG.out.2.1
              have hgf := blk_frozen hggb k
              obtain ⟨old, hold⟩ : ∃ old, G[k]? = some old := ⟨G[k]'(by omega), Array.getElem?_eq_getElem _⟩
              have hgc : wr.cell? ⟨gg, k, none⟩ = some old := (blk_cell hggb k).trans hold
              have HGB := Lib.hid hggb
              have HGSZ := Lib.hid hgsz
              clear hggb hgsz hold hc2
              go_wp2_with fail
              go_roundw
              case rel =>
                have hput := blk_put HGB.out k (.slice Bu (xs.length + 64) cu) rfl
                have hfar : ∀ q, q ≠ gg → (wr.setCell ⟨gg, k, none⟩ (.slice Bu (xs.length + 64) cu)).heap[q]? = wr.heap[q]? := fun q hq => Below.heap_setCell _ _ _ q hq
                have hmk : Marked wr vs xss vs.length := fun i v ys hv hy => by
                  by_cases hik : i = k
                  · subst hik
                    obtain rfl : v = .slice B xs.length cap := by rw [HV.out] at hv; exact (Option.some.inj hv).symm
                    obtain rfl : ys = xs := by rw [HX.out] at hy; exact (Option.some.inj hy).symm
                    rw [if_pos hlt]
                    exact HO.out
                  · exact own_kept (HM.out i v ys hv hy) HKP.out (fun q hq h3 => HF.out.apart i k v _ hik hv HV.out q hq h3)
                refine ⟨k + 1, by omega, by go_num, Lib.hid (hmk.set HNE.out), Lib.hid ((HK.out.then_ HKP.out (fun q hq => .inl ⟨k, _, HV.out, hq⟩)).setCell (p := ⟨gg, k, none⟩) (.inr hgw) _), Lib.hid ((HBL.out.trans HB2.out).setCell (p := ⟨gg, k, none⟩) (Nat.zero_le _) _), _, Lib.hid ⟨hput, by simp [HGSZ.out], fun i v ys hi hv hy => ?_⟩⟩
                by_cases hik : i = k
                · subst hik
                  obtain rfl : v = .slice B xs.length cap := by rw [HV.out] at hv; exact (Option.some.inj hv).symm
                  obtain rfl : ys = xs := by rw [HX.out] at hy; exact (Option.some.inj hy).symm
                  refine ⟨Bu, cu, by rw [Array.getElem?_setIfInBounds_self_of_lt (by rw [HGSZ.out]; omega)], own_le HU.out, ?_⟩
                  refine Kd.F_mono (Kd.F_step (own_F HU.out) (fun q hq hql => hfar q (fun he => ?_))) (fun q hq => ?_)
                  · rcases HAT.out with h | ⟨b, h, hb⟩
                    · rw [h] at hq
                      exact HNE.out i _ HV.out (by rw [hq, he])
                    · rw [h] at hq
                      injection hq with hq
                      omega
                  · rcases HAT.out with h | ⟨b, h, hb⟩
                    · exact .inl (h.symm.trans hq)
                    · rw [h] at hq
                      injection hq with hq
                      exact .inr (by omega)
                · have hgr := (HG.out.2.2.step (W1 := wr.setCell ⟨gg, k, none⟩ (.slice Bu (xs.length + 64) cu)) HF.out hgw (fun q hq hqg hqv => (hfar q hqg).trans (HKP.out.2 q hq (fun h3 => hqv _ HV.out h3)))) i v ys (by omega) hv hy
                  obtain ⟨B1, c1, g1, g2, g3⟩ := hgr
                  exact ⟨B1, c1, by rw [Array.getElem?_setIfInBounds_ne (by omega)]; exact g1, g2, g3⟩
              case measure => simp [intOf]; omega
        · obtain rfl : k = vs.length := by omega
          clear hlt
          go_wp2_with fail
          obtain ⟨w3, rfl⟩ : ∃ w3 : World, w3 = wr := ⟨_, rfl⟩
          go_loopw [9, 10] (fun i _ wq => ∃ k : Nat, k ≤ vs.length ∧ i = .int .i64 k ∧ Drawn0 w3 wq) (fun i _ _ => vs.length - (intOf i).toNat)
          case atStart => exact ⟨0, by omega, rfl, Drawn0.refl _⟩
          case round =>
            obtain ⟨k3, hk3, rfl, ⟨m3, rfl⟩⟩ := hrel
            by_cases hlt : k3 < vs.length
            · obtain ⟨v, hv⟩ : ∃ v, vs[k3]? = some v := ⟨vs[k3], List.getElem?_eq_getElem hlt⟩
              obtain ⟨xs, hx⟩ : ∃ xs, xss[k3]? = some xs := ⟨xss[k3]'(by have := HLEN.out; omega), List.getElem?_eq_getElem _⟩
              obtain ⟨ad, rfl, hc⟩ := HF.out.cell HK.out hv
              have hown := HM.out k3 v xs hv hx
              rw [if_pos hlt] at hown
              have hxl := (HF.out.own k3 v xs hv hx).2
              obtain ⟨Bg, cg, hg1, hg2, hg3⟩ := HG.out.2.2 k3 v xs hlt hv hx
              have hgc : w3.cell? ⟨gg, k3, none⟩ = some (.slice Bg (xs.length + 64) cg) := (blk_cell HG.out.1 k3).trans hg1
              obtain ⟨B, cap, rfl⟩ := own_slice hown
              have hcg := Lib.hid (Kd.F_now hg3)
              have hcb := Lib.hid (byte_of_reads (own_reads_of' (d := (0 : UInt8)) hown))
              clear hv hx hown hg1 hg3
              go_wp2_with fail
              go_loopw [10] (fun i wq => ∃ j : Nat, j ≤ xs.length + 64 ∧ i = .int .i64 j ∧ Drawn0 w3 wq) (fun i _ => xs.length + 64 - (intOf i).toNat)
              case atStart => exact ⟨0, by omega, rfl, ⟨_, rfl⟩⟩
              case round =>
                obtain ⟨j, hj, rfl, ⟨m, rfl⟩⟩ := hrel
                by_cases hjl : j < xs.length + 64
                · obtain ⟨adg, y, rfl, hy, hcy⟩ := byte_at hcg.out hjl
                  obtain rfl : markB k3 j = y := by rw [mkRow_get hjl] at hy; exact Option.some.inj hy
                  have hmk := Lib.hid (fun q : Nat => quiet_sum_same (n := q) (m := m) (w := w3) ((markByte_any k3 j (w3.drewN (m + q)) (by omega) (by omega)).mono fun e w' h => ⟨h.1, h.2.symm⟩))
                  clear hy
                  by_cases hjn : j < xs.length
                  · obtain ⟨adb, y2, rfl, hy2, hcy2⟩ := byte_at hcb.out hjn
                    obtain rfl : markB k3 j = y2 := by rw [mkRow_get hjn] at hy2; exact Option.some.inj hy2
                    clear hy2
                    generalize markB k3 j = mb at *
                    have hd : decide ((j : Int) < (xs.length : Int)) = true := decide_eq_true (by omega)
                    have hd2 : decide (j < xs.length) = true := decide_eq_true hjn
                    have heq : (((mb.toNat : Nat) : Int) == ((mb.toNat : Nat) : Int)) = true := by simp
                    go_wp2_with fail
                    go_quiet ((go_at_call 41; exact hmk.out _))
                    go_wp2_with fail
                    go_roundw
                    case rel => exact ⟨j + 1, by omega, by go_num, ⟨_, rfl⟩⟩
                    case measure => simp [intOf]; omega
                  · generalize markB k3 j = mb at *
                    have hd : decide ((j : Int) < (xs.length : Int)) = false := decide_eq_false (by omega)
                    have hd2 : decide (j < xs.length) = false := decide_eq_false hjn
                    have heq : (((mb.toNat : Nat) : Int) == ((mb.toNat : Nat) : Int)) = true := by simp
                    go_wp2_with fail
                    go_quiet ((go_at_call 41; exact hmk.out _))
                    go_wp2_with fail
                    go_roundw
                    case rel => exact ⟨j + 1, by omega, by go_num, ⟨_, rfl⟩⟩
                    case measure => simp [intOf]; omega
                · obtain rfl : j = xs.length + 64 := by omega
                  have hd : decide (((xs.length + 64 : Nat) : Int) < (xs.length : Int) + 64) = false := decide_eq_false (by omega)
                  go_wp2_with fail
                  go_roundw
                  case rel => exact ⟨k3 + 1, by omega, by go_num, ⟨_, rfl⟩⟩
                  case measure => simp [intOf]; omega
            · obtain rfl : k3 = vs.length := by omega
              have HM3 := Lib.hid (show Marked (w3.drewN m3) vs xss vs.length from fun i v xs hv hx => pw_own_below (HM.out i v xs hv hx) (In.drewN (In.refl _) _).out)
              have HK3 := Lib.hid (HK.out.below (In.drewN (In.refl w3) m3).out)
              have HBL3 := Lib.hid (HBL.out.trans (Below.mono (In.drewN (In.refl w3) m3).out (Nat.zero_le _)))
              have HG3 := Lib.hid (show (w3.drewN m3).heap[gg]? = some (.cells G 34 (0, 0)) ∧ G.size = vs.length from ⟨blk_drewN HG.out.1 _, HG.out.2.1⟩)
              clear hlt HM HK HBL HG
              generalize w3.drewN m3 = w4 at *
              go_wp2_with fail
              go_loopw [11, 12, 13] (fun i _ _ wr => ∃ k : Nat, k ≤ vs.length ∧ i = .int .i64 k ∧ Hid (Marked wr vs xss vs.length) ∧ Hid (Kept w wr (InRows vs)) ∧ Hid (Below 0 w wr) ∧ ∃ G, Hid (wr.heap[gg]? = some (.cells G 34 (0, 0)) ∧ G.size = vs.length ∧ Grown wr vs xss gg G k (fun i n => mkRow i n ++ mkRow (i + vs.length) 64))) (fun i _ _ _ => vs.length - (intOf i).toNat)
              case atStart => exact ⟨0, by omega, rfl, HM3, HK3, HBL3, G, Lib.hid ⟨HG3.out.1, HG3.out.2, fun i v xs hi => by omega⟩⟩
              case round =>
                clear HM3 HK3 HBL3 HG3 G
                obtain ⟨k, hk, rfl, HM, HK, HBL, G, HG⟩ := hrel
                by_cases hlt : k < vs.length
                · obtain ⟨v, hv⟩ : ∃ v, vs[k]? = some v := ⟨vs[k], List.getElem?_eq_getElem hlt⟩
                  obtain ⟨xs, hx⟩ : ∃ xs, xss[k]? = some xs := ⟨xss[k]'(by have := HLEN.out; omega), List.getElem?_eq_getElem _⟩
                  obtain ⟨ad, rfl, hc⟩ := HF.out.cell HK.out hv
                  have hown := HM.out k v xs hv hx
                  rw [if_pos hlt] at hown
                  have hxl := (HF.out.own k v xs hv hx).2
                  obtain ⟨B, cap, rfl⟩ := own_slice hown
                  have HV := Lib.hid hv
                  have HX := Lib.hid hx
                  have HO := Lib.hid hown
                  have hggr : gg < wr.heap.size := blk_lt HG.out.1
                  clear hv hx hown
                  have hmk64 : ∀ W : World, (Instr.makeSlice 34 (.int .i64 64) (.int .i64 64)).run Try.prog W = .ok (.slice (some ⟨W.heap.size, 0, none⟩) 64 64) (W.alloc (.cells (madeCells #[encB 0] 64) 5)) := fun W => print_make_of (P := Try.prog) 34 5 (.int .u8 0) 1 Try.underlying34 info5 rfl (by decide) 64 (by decide) W
                  have hmade := own_made_of (enc := encB) (d := (0 : UInt8)) wr wr.heap.size 5 64 (Nat.le_refl _) (by decide)
                  have hinm := In.alloc (In.refl wr) (.cells (madeCells #[encB 0] 64) 5)
                  go_wp2_with fail
                  obtain ⟨wo, rfl⟩ : ∃ wo : World, wo = wr := ⟨_, rfl⟩
                  obtain ⟨gm, hgm⟩ : ∃ gm, gm = wo.heap.size := ⟨_, rfl⟩
                  have hgml : gm < (wo.alloc (.cells (madeCells #[encB 0] 64) 5)).heap.size := by rw [hgm]; simp
                  have hgmw : wo.heap.size ≤ gm := by omega
                  rw [← hgm] at hmade ⊢
                  generalize wo.alloc (.cells (madeCells #[encB 0] 64) 5) = wm at *
                  have HMD := Lib.hid hmade
                  have HGM := Lib.hid hgm
                  clear hmade hmk64 hgm
                  go_loopw [13] (fun i wq => ∃ j : Nat, j ≤ 64 ∧ i = .int .i64 j ∧ Hid (wq.ownsRow gm 5 1 (.slice (some ⟨gm, 0, none⟩) 64 64) 64 (encs encB (mkRow (k + vs.length) j ++ (List.replicate 64 (0 : UInt8)).drop j))) ∧ In wo wq) (fun i _ => 64 - (intOf i).toNat)
                  case atStart => exact ⟨0, by omega, rfl, by simpa [mkRow] using HMD, hinm⟩
                  case round =>
                    clear HMD hinm hgml
                    obtain ⟨j, hj, rfl, HW, hinq⟩ := hrel
                    by_cases hjl : j < 64
                    · obtain ⟨hb0, hb1⟩ := own_byte HW.out j hjl
                      generalize (mkRow (k + vs.length) j ++ (List.replicate 64 (0 : UInt8)).drop j).getD j 0 = y at hb0
                      have HPUT := Lib.hid (own_byte_put HW.out j (markB (k + vs.length) j))
                      rw [set_mark (xs := List.replicate 64 (0 : UInt8)) (by simp; omega)] at HPUT
                      have hmk := Lib.hid (fun W => markByte_any (k + vs.length) j W (by omega) (by omega))
                      have hcast : ((k + vs.length : Nat) : Int) = (k : Int) + (vs.length : Int) := by omega
                      rw [hcast] at hmk
                      generalize markB (k + vs.length) j = mb at *
                      clear hcast
                      go_wp2_with fail
                      refine (hmk.out _).mono ?_
                      rintro e wx ⟨rfl, rfl⟩
                      go_wp2_with fail
                      go_roundw
                      case rel => exact ⟨j + 1, by omega, by go_num, HPUT, In.set hinq hgmw _ _⟩
                      case measure => simp [intOf]; omega
                    · obtain rfl : j = 64 := by omega
                      have hm64 : mkRow (k + vs.length) 64 ++ (List.replicate 64 (0 : UInt8)).drop 64 = mkRow (k + vs.length) 64 := by simp
                      rw [hm64] at HW
                      have hc2 := In.cell hc hinq
                      have hnews : ∀ (i : Nat) (u : Value), (encs encB (mkRow (k + vs.length) 64))[i]? = some u → wr.cell? ((⟨gm, 0, none⟩ : Addr).add i) = some u := HW.out.cells (g := gm) rfl
                      have HNEW := Lib.hid hnews
                      have hrl : (mkRow (k + vs.length) 64).length = 64 := mkRow_length _ _
                      obtain ⟨R64, hR64⟩ : ∃ R, R = mkRow (k + vs.length) 64 := ⟨_, rfl⟩
                      rw [← hR64] at HNEW hrl
                      have HR64 := Lib.hid hR64
                      have HRL := Lib.hid (show (encs encB R64).length = 64 by rw [encs_length, hrl])
                      clear hm64 hnews hR64 hrl hjl
                      go_wp2_with (at_builtin; refine wpList_append_keep rfl (.tmp 148) (.tmp 149) 34 rfl 0 5 (.int .u8 0) 1 Try.underlying34 info5 rfl (.slice B xs.length cap) xs.length (encs encB (mkRow k xs.length)) rfl (pw_own_below HO.out hinq.out) ⟨gm, 0, none⟩ 64 64 (encs encB R64) rfl HRL.out HNEW.out (encs_one' R64) (by unfold maxLen; omega) (by omega) (Nat.zero_le _) ?_)
                      intro v' w' ho' hg' hat' hkp'
                      obtain ⟨Bu, cu, rfl⟩ := own_slice ho'
                      have HU' := Lib.hid (show w'.ownsRow 0 5 1 (.slice Bu (xs.length + 64) cu) (xs.length + 64) (encs encB (mkRow k xs.length ++ R64)) by rw [encs_append]; exact ho')
                      have HO' := Lib.hid (hkp' _ _ _ (Nat.le_refl _) (pw_own_below HO.out hinq.out))
                      have HKP := Lib.hid (show Kept wo w' (fun q => (Value.slice B xs.length cap).ownBlock = some q) from Kept.of_grown hg' (Kept.of_below hinq.out _) (fun q hq => .inl hq))
                      have HB2 := Lib.hid ((Below.mono hinq.out (Nat.zero_le _) : Below 0 wo wr).grown hg' (Nat.zero_le _) (fun q hq => Nat.zero_le _))
                      have HAT := Lib.hid (show (Value.slice Bu (xs.length + 64) cu).ownBlock = (Value.slice B xs.length cap).ownBlock ∨ ∃ b, (Value.slice Bu (xs.length + 64) cu).ownBlock = some b ∧ wo.heap.size ≤ b by
                        rcases hat' with h | h
                        · exact .inl h
                        · exact .inr ⟨_, h, hinq.size⟩)
                      have hggb := blk_kept HG.out.1 HKP.out (fun hq => HNE.out k _ HV.out hq)
                      have hgl := blk_lt hggb
                      have hgsz := HG.out.2.1
                      have hgf := blk_frozen hggb k
                      obtain ⟨old, hold⟩ : ∃ old, G[k]? = some old := ⟨G[k]'(by omega), Array.getElem?_eq_getElem _⟩
                      have hgc : w'.cell? ⟨gg, k, none⟩ = some old := (blk_cell hggb k).trans hold
                      have HGB := Lib.hid hggb
                      have HGSZ := Lib.hid hgsz
                      clear hggb hgsz hold hc2 ho' hg' hat' hkp'
                      go_wp2_with fail
                      go_roundw
                      case rel =>
                        have hput := blk_put HGB.out k (.slice Bu (xs.length + 64) cu) rfl
                        have hfar : ∀ q, q ≠ gg → (w'.setCell ⟨gg, k, none⟩ (.slice Bu (xs.length + 64) cu)).heap[q]? = w'.heap[q]? := fun q hq => Below.heap_setCell _ _ _ q hq
                        have hmk : Marked w' vs xss vs.length := fun i v ys hv hy => by
                          by_cases hik : i = k
                          · subst hik
                            obtain rfl : v = .slice B xs.length cap := by rw [HV.out] at hv; exact (Option.some.inj hv).symm
                            obtain rfl : ys = xs := by rw [HX.out] at hy; exact (Option.some.inj hy).symm
                            rw [if_pos hlt]
                            exact HO'.out
                          · exact own_kept (HM.out i v ys hv hy) HKP.out (fun q hq h3 => HF.out.apart i k v _ hik hv HV.out q hq h3)
                        refine ⟨k + 1, by omega, by go_num, Lib.hid (hmk.set HNE.out), Lib.hid ((HK.out.then_ HKP.out (fun q hq => .inl ⟨k, _, HV.out, hq⟩)).setCell (p := ⟨gg, k, none⟩) (.inr hgw) _), Lib.hid ((HBL.out.trans HB2.out).setCell (p := ⟨gg, k, none⟩) (Nat.zero_le _) _), _, Lib.hid ⟨hput, by simp [HGSZ.out], fun i v ys hi hv hy => ?_⟩⟩
                        by_cases hik : i = k
                        · subst hik
                          obtain rfl : v = .slice B xs.length cap := by rw [HV.out] at hv; exact (Option.some.inj hv).symm
                          obtain rfl : ys = xs := by rw [HX.out] at hy; exact (Option.some.inj hy).symm
                          refine ⟨Bu, cu, by rw [Array.getElem?_setIfInBounds_self_of_lt (by rw [HGSZ.out]; omega)], own_le HU'.out, ?_⟩
                          dsimp only
                          rw [← HR64.out]
                          refine Kd.F_mono (Kd.F_step (own_F HU'.out) (fun q hq hql => hfar q (fun he => ?_))) (fun q hq => ?_)
                          · rcases HAT.out with h | ⟨b, h, hb⟩
                            · rw [h] at hq
                              exact HNE.out i _ HV.out (by rw [hq, he])
                            · rw [h] at hq
                              injection hq with hq
                              omega
                          · rcases HAT.out with h | ⟨b, h, hb⟩
                            · exact .inl (h.symm.trans hq)
                            · rw [h] at hq
                              injection hq with hq
                              exact .inr (by omega)
                        · have hgr := (HG.out.2.2.step (W1 := w'.setCell ⟨gg, k, none⟩ (.slice Bu (xs.length + 64) cu)) HF.out hgw (fun q hq hqg hqv => (hfar q hqg).trans (HKP.out.2 q hq (fun h3 => hqv _ HV.out h3)))) i v ys (by omega) hv hy
                          obtain ⟨B1, c1, g1, g2, g3⟩ := hgr
                          exact ⟨B1, c1, by rw [Array.getElem?_setIfInBounds_ne (by omega)]; exact g1, g2, g3⟩
                      case measure => simp [intOf]; omega
                · obtain rfl : k = vs.length := by omega
                  clear hlt
                  go_wp2_with fail
                  obtain ⟨w5, rfl⟩ : ∃ w5 : World, w5 = wr := ⟨_, rfl⟩
                  go_loopw [14, 15] (fun i _ wq => ∃ k : Nat, k ≤ vs.length ∧ i = .int .i64 k ∧ Drawn0 w5 wq) (fun i _ _ => vs.length - (intOf i).toNat)
                  case atStart => exact ⟨0, by omega, rfl, Drawn0.refl _⟩
                  case round =>
                    obtain ⟨k3, hk3, rfl, ⟨m3, rfl⟩⟩ := hrel
                    by_cases hlt : k3 < vs.length
                    · obtain ⟨v, hv⟩ : ∃ v, vs[k3]? = some v := ⟨vs[k3], List.getElem?_eq_getElem hlt⟩
                      obtain ⟨xs, hx⟩ : ∃ xs, xss[k3]? = some xs := ⟨xss[k3]'(by have := HLEN.out; omega), List.getElem?_eq_getElem _⟩
                      obtain ⟨ad, rfl, hc⟩ := HF.out.cell HK.out hv
                      have hown := HM.out k3 v xs hv hx
                      rw [if_pos hlt] at hown
                      have hxl := (HF.out.own k3 v xs hv hx).2
                      obtain ⟨Bg, cg, hg1, hg2, hg3⟩ := HG.out.2.2 k3 v xs hlt hv hx
                      have hgc : w5.cell? ⟨gg, k3, none⟩ = some (.slice Bg (xs.length + 64) cg) := (blk_cell HG.out.1 k3).trans hg1
                      obtain ⟨B, cap, rfl⟩ := own_slice hown
                      have hcg := Lib.hid (Kd.F_now hg3)
                      have hcb := Lib.hid (byte_of_reads (own_reads_of' (d := (0 : UInt8)) hown))
                      clear hv hx hown hg1 hg3
                      go_wp2_with fail
                      go_loopw [15] (fun i wq => ∃ j : Nat, j ≤ xs.length ∧ i = .int .i64 j ∧ Drawn0 w5 wq) (fun i _ => xs.length - (intOf i).toNat)
                      case atStart => exact ⟨0, by omega, rfl, ⟨_, rfl⟩⟩
                      case round =>
                        obtain ⟨j, hj, rfl, ⟨m, rfl⟩⟩ := hrel
                        by_cases hjn : j < xs.length
                        · obtain ⟨adg, y, rfl, hy, hcy⟩ := byte_at hcg.out (j := j) (by omega)
                          obtain rfl : markB k3 j = y := by rw [List.getElem?_append_left (by rw [mkRow_length]; exact hjn), mkRow_get hjn] at hy; exact Option.some.inj hy
                          have hmk := Lib.hid (fun q : Nat => quiet_sum_same (n := q) (m := m) (w := w5) ((markByte_any k3 j (w5.drewN (m + q)) (by omega) (by omega)).mono fun e w' h => ⟨h.1, h.2.symm⟩))
                          obtain ⟨adb, y2, rfl, hy2, hcy2⟩ := byte_at hcb.out hjn
                          obtain rfl : markB k3 j = y2 := by rw [mkRow_get hjn] at hy2; exact Option.some.inj hy2
                          clear hy hy2
                          generalize markB k3 j = mb at *
                          have hjg : j < xs.length + 64 := by omega
                          have heq : (((mb.toNat : Nat) : Int) == ((mb.toNat : Nat) : Int)) = true := by simp
                          go_wp2_with fail
                          go_quiet ((go_at_call 41; exact hmk.out _))
                          go_wp2_with fail
                          go_roundw
                          case rel => exact ⟨j + 1, by omega, by go_num, ⟨_, rfl⟩⟩
                          case measure => simp [intOf]; omega
                        · obtain rfl : j = xs.length := by omega
                          go_wp2_with fail
                          go_roundw
                          case rel => exact ⟨k3 + 1, by omega, by go_num, ⟨_, rfl⟩⟩
                          case measure => simp [intOf]; omega
                    · obtain rfl : k3 = vs.length := by omega
                      go_wp2_with fail
                      go_ret
                      exact ⟨rfl, HK.out.drewN _, pw_below_drewN HBL.out _⟩
end Go.Proofs.Ytkoofoglcheonaa
