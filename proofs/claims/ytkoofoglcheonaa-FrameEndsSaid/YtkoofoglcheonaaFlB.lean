/- A bag of rows of bytes is held apart: printed by mkflb.py. -/
import Derived.Test.YtkoofoglcheonaaFlA
import Derived.Test.YtkoofoglcheonaaRfF
import Derived.Test.YtkoofoglcheonaaWGuard
namespace Go.Proofs.Ytkoofoglcheonaa
set_option linter.unusedVariables false
set_option linter.unusedSimpArgs false
open Go.RowKit Go.Proofs.YtkoofoglcheonaaW.PrintWords

/-- The bag: one field of it is in use. -/
def bag (v : Value) : Array Value := #[.slice none 0 0, .slice none 0 0, .slice none 0 0, .slice none 0 0, .slice none 0 0, v, .slice none 0 0, .slice none 0 0, .slice none 0 0, .slice none 0 0, .slice none 0 0, .slice none 0 0, .slice none 0 0, .slice none 0 0, .slice none 0 0, .slice none 0 0, .slice none 0 0, .slice none 0 0, .slice none 0 0, .slice none 0 0, .slice none 0 0, .slice none 0 0]
theorem info34c : (Try.prog.info? 34).map (fun i => (i.zero, i.size, i.bytes)) = some (some (.slice none 0 0), 1, 24) := by kernel_rfl
theorem own_keep {W w w1 : World} {base e n : Nat} {v : Value} {xs : List Value} (h : w.ownsRow base e 1 v n xs) {S : Nat → Prop} (hk : Kept w w1 S) (hS : ∀ q, v.ownBlock = some q → ¬ S q) : w1.ownsRow base e 1 v n xs := own_kept h hk hS
set_option maxRecDepth 100000 in
set_option maxHeartbeats 1600000 in
theorem putBytes_any {p : Nat} {v : Value} {vs : List Value} {A : Option Addr} {n c : Nat} {W w : World} (hB : w.heap[p]? = some (.cells (bag v) 111 (0, 0))) (hp : W.heap.size ≤ p) (hv : w.ownsRow W.heap.size 34 1 v vs.length vs) (hin : In W w) (hl : vs.length ≤ 1000000) :
    Calls Try.prog 47 #[.pointer (some ⟨p, 0, none⟩), .slice A n c] w fun e w' => e = .returned (.tuple #[]) ∧ In W w' ∧ ∃ v1, w'.heap[p]? = some (.cells (bag v1) 111 (0, 0)) ∧ w'.ownsRow W.heap.size 34 1 v1 (vs ++ [Value.slice A n c]).length (vs ++ [.slice A n c]) := by
  have hc : w.cell? ⟨p, 5, none⟩ = some v := blk_cell hB 5
  have HB := Lib.hid hB
  have HV := Lib.hid hv
  have hpl := blk_lt hB
  have hne : v.ownBlock ≠ some p := fun he => by
    obtain ⟨cells, hcc⟩ := own_typed hv p he
    rw [hB] at hcc
    simp at hcc
  have HNE := Lib.hid hne
  have HIN := Lib.hid hin
  clear hB hv hne hin
  go_enter Try.func47, Try.ntmps47
  go_wp2_with (at_builtin; refine print_append_cells (w0 := W) W.heap.size rfl (.tmp 8) (.tmp 10) 22 34 (.slice none 0 0) 1 24 rfl Try.underlying22 info34c rfl (by decide) (by decide) v vs.length vs [.slice A n c] rfl ?r1 rfl ?r2 HV.out HIN.out.out HIN.out.size (by omega) ?_)
  case r1 => first | rfl | (go_simp; done)
  case r2 => exact fun u hu => by rw [List.mem_singleton] at hu; subst hu; rfl
  intro v1 w1 ho hb hg hat
  obtain ⟨B1, c1, rfl⟩ := own_slice ho
  have HB1 := Lib.hid ((hg.block p hpl (fun he => HNE.out he.symm)).trans HB.out)
  have hf := blk_frozen HB1.out 5
  have hc1 := (show _ = some v from blk_cell HB1.out 5)
  have HO := Lib.hid ho
  have HBL := Lib.hid hb
  have HNE1 := Lib.hid (show (Value.slice B1 (vs.length + 1) c1).ownBlock ≠ some p from fun he => by
    rcases hat with h | ⟨b, h, hlt⟩
    · exact HNE.out (h.symm.trans he)
    · rw [h] at he
      injection he with he
      omega)
  clear ho hb hat hg
  go_wp2_with fail
  go_end0
  refine ⟨rfl, ?_, .slice B1 (vs.length + 1) c1, ?_, ?_⟩
  · exact In.set (HBL.out : In W w1) hp _ _
  · exact blk_put HB1.out 5 _ rfl
  · rw [List.length_append]
    exact own_move HO.out (fun q hq => Below.heap_setCell _ _ _ q (fun he => HNE1.out (by rw [hq, he])))

theorem Flat.below {W w : World} {A : Option Addr} {vs : List Value} {xss : List (List UInt8)} (h : Flat W A vs xss) (hb : In W w) : Flat w A vs xss := ⟨h.len, h.small,
  fun k v hv => by
    obtain ⟨ad, h1, h2, h3⟩ := h.cells k v hv
    exact ⟨ad, h1, Nat.lt_of_lt_of_le h2 hb.size, In.cell h3 hb⟩,
  h.away, fun k v xs hv hx => ⟨pw_own_below (h.own k v xs hv hx).1 hb.out, (h.own k v xs hv hx).2⟩, h.apart⟩
set_option maxRecDepth 100000 in
set_option maxHeartbeats 6400000 in
theorem apart_any {p : Nat} {A : Option Addr} {c : Nat} {vs : List Value} {xss : List (List UInt8)} {w0 : World} (hB : w0.heap[p]? = some (.cells (bag (.slice A vs.length c)) 111 (0, 0))) (hF : Flat w0 A vs xss) (hn : ∀ (k : Nat) (v : Value), vs[k]? = some v → v.ownBlock ≠ some p) :
    Calls Try.prog 48 #[.pointer (some ⟨p, 0, none⟩)] w0 fun e w' => e = .returned (.bool true) ∧ Kept w0 w' (InRows vs) ∧ Below 0 w0 w' := by
  have HB := Lib.hid hB
  have HF := Lib.hid hF
  have HNP := Lib.hid hn
  have HK := Lib.hid (Kept.refl w0 (InRows vs))
  have HL := Lib.hid (Below.refl 0 w0)
  clear hB hF hn
  go_enter Try.func48, Try.ntmps48
  have hc0 := (show _ = some (Value.slice none 0 0) from blk_cell HB.out 0)
  go_wp2_with fail
  refine (flat54_nil _).mono ?_
  rintro e wn ⟨rfl, hia⟩
  have HBn := Lib.hid (blk_below HB.out hia.out)
  have HKn := Lib.hid (HK.out.below hia.out)
  have HLn := Lib.hid (HL.out.trans (Below.mono hia.out (Nat.zero_le _)))
  have HFn := Lib.hid (HF.out.below hia)
  clear hc0 HB HK HL HF
  try clear hia
  try clear hk hb
  have HB := HBn
  have HK := HKn
  have HL := HLn
  clear HBn HKn HLn
  have HF := HFn
  clear HFn
  have hc1 := (show _ = some (Value.slice none 0 0) from blk_cell HB.out 1)
  go_wp2_with fail
  refine (flat55_nil _).mono ?_
  rintro e wn ⟨rfl, hia⟩
  have HBn := Lib.hid (blk_below HB.out hia.out)
  have HKn := Lib.hid (HK.out.below hia.out)
  have HLn := Lib.hid (HL.out.trans (Below.mono hia.out (Nat.zero_le _)))
  have HFn := Lib.hid (HF.out.below hia)
  clear hc1 HB HK HL HF
  try clear hia
  try clear hk hb
  have HB := HBn
  have HK := HKn
  have HL := HLn
  clear HBn HKn HLn
  have HF := HFn
  clear HFn
  have hc2 := (show _ = some (Value.slice none 0 0) from blk_cell HB.out 2)
  go_wp2_with fail
  refine (flat56_nil _).mono ?_
  rintro e wn ⟨rfl, hia⟩
  have HBn := Lib.hid (blk_below HB.out hia.out)
  have HKn := Lib.hid (HK.out.below hia.out)
  have HLn := Lib.hid (HL.out.trans (Below.mono hia.out (Nat.zero_le _)))
  have HFn := Lib.hid (HF.out.below hia)
  clear hc2 HB HK HL HF
  try clear hia
  try clear hk hb
  have HB := HBn
  have HK := HKn
  have HL := HLn
  clear HBn HKn HLn
  have HF := HFn
  clear HFn
  have hc3 := (show _ = some (Value.slice none 0 0) from blk_cell HB.out 3)
  go_wp2_with fail
  refine (flat57_nil _).mono ?_
  rintro e wn ⟨rfl, hia⟩
  have HBn := Lib.hid (blk_below HB.out hia.out)
  have HKn := Lib.hid (HK.out.below hia.out)
  have HLn := Lib.hid (HL.out.trans (Below.mono hia.out (Nat.zero_le _)))
  have HFn := Lib.hid (HF.out.below hia)
  clear hc3 HB HK HL HF
  try clear hia
  try clear hk hb
  have HB := HBn
  have HK := HKn
  have HL := HLn
  clear HBn HKn HLn
  have HF := HFn
  clear HFn
  have hc4 := (show _ = some (Value.slice none 0 0) from blk_cell HB.out 4)
  go_wp2_with fail
  refine (flat58_nil _).mono ?_
  rintro e wn ⟨rfl, hia⟩
  have HBn := Lib.hid (blk_below HB.out hia.out)
  have HKn := Lib.hid (HK.out.below hia.out)
  have HLn := Lib.hid (HL.out.trans (Below.mono hia.out (Nat.zero_le _)))
  have HFn := Lib.hid (HF.out.below hia)
  clear hc4 HB HK HL HF
  try clear hia
  try clear hk hb
  have HB := HBn
  have HK := HKn
  have HL := HLn
  clear HBn HKn HLn
  have HF := HFn
  clear HFn
  have hc5 := (show _ = some (Value.slice A vs.length c) from blk_cell HB.out 5)
  go_wp2_with fail
  refine (flatBytes_any HF.out).mono ?_
  rintro e wn ⟨rfl, hk, hb⟩
  have HBn := Lib.hid (blk_kept HB.out hk (fun ⟨k, v, hv, he⟩ => HNP.out k v hv he))
  have HKn := Lib.hid (HK.out.then_ hk (fun q hq => .inl hq))
  have HLn := Lib.hid (HL.out.trans hb)
  clear hc5 HB HK HL HF
  try clear hia
  try clear hk hb
  have HB := HBn
  have HK := HKn
  have HL := HLn
  clear HBn HKn HLn
  have hc6 := (show _ = some (Value.slice none 0 0) from blk_cell HB.out 6)
  go_wp2_with fail
  refine (flat60_nil _).mono ?_
  rintro e wn ⟨rfl, hia⟩
  have HBn := Lib.hid (blk_below HB.out hia.out)
  have HKn := Lib.hid (HK.out.below hia.out)
  have HLn := Lib.hid (HL.out.trans (Below.mono hia.out (Nat.zero_le _)))
  clear hc6 HB HK HL 
  try clear hia
  try clear hk hb
  have HB := HBn
  have HK := HKn
  have HL := HLn
  clear HBn HKn HLn
  have hc7 := (show _ = some (Value.slice none 0 0) from blk_cell HB.out 7)
  go_wp2_with fail
  refine (flat61_nil _).mono ?_
  rintro e wn ⟨rfl, hia⟩
  have HBn := Lib.hid (blk_below HB.out hia.out)
  have HKn := Lib.hid (HK.out.below hia.out)
  have HLn := Lib.hid (HL.out.trans (Below.mono hia.out (Nat.zero_le _)))
  clear hc7 HB HK HL 
  try clear hia
  try clear hk hb
  have HB := HBn
  have HK := HKn
  have HL := HLn
  clear HBn HKn HLn
  have hc8 := (show _ = some (Value.slice none 0 0) from blk_cell HB.out 8)
  go_wp2_with fail
  refine (flat62_nil _).mono ?_
  rintro e wn ⟨rfl, hia⟩
  have HBn := Lib.hid (blk_below HB.out hia.out)
  have HKn := Lib.hid (HK.out.below hia.out)
  have HLn := Lib.hid (HL.out.trans (Below.mono hia.out (Nat.zero_le _)))
  clear hc8 HB HK HL 
  try clear hia
  try clear hk hb
  have HB := HBn
  have HK := HKn
  have HL := HLn
  clear HBn HKn HLn
  have hc9 := (show _ = some (Value.slice none 0 0) from blk_cell HB.out 9)
  go_wp2_with fail
  refine (flat63_nil _).mono ?_
  rintro e wn ⟨rfl, hia⟩
  have HBn := Lib.hid (blk_below HB.out hia.out)
  have HKn := Lib.hid (HK.out.below hia.out)
  have HLn := Lib.hid (HL.out.trans (Below.mono hia.out (Nat.zero_le _)))
  clear hc9 HB HK HL 
  try clear hia
  try clear hk hb
  have HB := HBn
  have HK := HKn
  have HL := HLn
  clear HBn HKn HLn
  have hc10 := (show _ = some (Value.slice none 0 0) from blk_cell HB.out 10)
  go_wp2_with fail
  refine (flat64_nil _).mono ?_
  rintro e wn ⟨rfl, hia⟩
  have HBn := Lib.hid (blk_below HB.out hia.out)
  have HKn := Lib.hid (HK.out.below hia.out)
  have HLn := Lib.hid (HL.out.trans (Below.mono hia.out (Nat.zero_le _)))
  clear hc10 HB HK HL 
  try clear hia
  try clear hk hb
  have HB := HBn
  have HK := HKn
  have HL := HLn
  clear HBn HKn HLn
  have hc11 := (show _ = some (Value.slice none 0 0) from blk_cell HB.out 11)
  go_wp2_with fail
  refine (flat65_nil _).mono ?_
  rintro e wn ⟨rfl, hia⟩
  have HBn := Lib.hid (blk_below HB.out hia.out)
  have HKn := Lib.hid (HK.out.below hia.out)
  have HLn := Lib.hid (HL.out.trans (Below.mono hia.out (Nat.zero_le _)))
  clear hc11 HB HK HL 
  try clear hia
  try clear hk hb
  have HB := HBn
  have HK := HKn
  have HL := HLn
  clear HBn HKn HLn
  have hc12 := (show _ = some (Value.slice none 0 0) from blk_cell HB.out 12)
  go_wp2_with fail
  refine (flat66_nil _).mono ?_
  rintro e wn ⟨rfl, hia⟩
  have HBn := Lib.hid (blk_below HB.out hia.out)
  have HKn := Lib.hid (HK.out.below hia.out)
  have HLn := Lib.hid (HL.out.trans (Below.mono hia.out (Nat.zero_le _)))
  clear hc12 HB HK HL 
  try clear hia
  try clear hk hb
  have HB := HBn
  have HK := HKn
  have HL := HLn
  clear HBn HKn HLn
  have hc13 := (show _ = some (Value.slice none 0 0) from blk_cell HB.out 13)
  go_wp2_with fail
  refine (flat67_nil _).mono ?_
  rintro e wn ⟨rfl, hia⟩
  have HBn := Lib.hid (blk_below HB.out hia.out)
  have HKn := Lib.hid (HK.out.below hia.out)
  have HLn := Lib.hid (HL.out.trans (Below.mono hia.out (Nat.zero_le _)))
  clear hc13 HB HK HL 
  try clear hia
  try clear hk hb
  have HB := HBn
  have HK := HKn
  have HL := HLn
  clear HBn HKn HLn
  have hc14 := (show _ = some (Value.slice none 0 0) from blk_cell HB.out 14)
  go_wp2_with fail
  refine (flat68_nil _).mono ?_
  rintro e wn ⟨rfl, hia⟩
  have HBn := Lib.hid (blk_below HB.out hia.out)
  have HKn := Lib.hid (HK.out.below hia.out)
  have HLn := Lib.hid (HL.out.trans (Below.mono hia.out (Nat.zero_le _)))
  clear hc14 HB HK HL 
  try clear hia
  try clear hk hb
  have HB := HBn
  have HK := HKn
  have HL := HLn
  clear HBn HKn HLn
  have hc15 := (show _ = some (Value.slice none 0 0) from blk_cell HB.out 15)
  go_wp2_with fail
  refine (flat69_nil _).mono ?_
  rintro e wn ⟨rfl, hia⟩
  have HBn := Lib.hid (blk_below HB.out hia.out)
  have HKn := Lib.hid (HK.out.below hia.out)
  have HLn := Lib.hid (HL.out.trans (Below.mono hia.out (Nat.zero_le _)))
  clear hc15 HB HK HL 
  try clear hia
  try clear hk hb
  have HB := HBn
  have HK := HKn
  have HL := HLn
  clear HBn HKn HLn
  have hc16 := (show _ = some (Value.slice none 0 0) from blk_cell HB.out 16)
  go_wp2_with fail
  refine (flat70_nil _).mono ?_
  rintro e wn ⟨rfl, hia⟩
  have HBn := Lib.hid (blk_below HB.out hia.out)
  have HKn := Lib.hid (HK.out.below hia.out)
  have HLn := Lib.hid (HL.out.trans (Below.mono hia.out (Nat.zero_le _)))
  clear hc16 HB HK HL 
  try clear hia
  try clear hk hb
  have HB := HBn
  have HK := HKn
  have HL := HLn
  clear HBn HKn HLn
  have hc17 := (show _ = some (Value.slice none 0 0) from blk_cell HB.out 17)
  go_wp2_with fail
  refine (flat71_nil _).mono ?_
  rintro e wn ⟨rfl, hia⟩
  have HBn := Lib.hid (blk_below HB.out hia.out)
  have HKn := Lib.hid (HK.out.below hia.out)
  have HLn := Lib.hid (HL.out.trans (Below.mono hia.out (Nat.zero_le _)))
  clear hc17 HB HK HL 
  try clear hia
  try clear hk hb
  have HB := HBn
  have HK := HKn
  have HL := HLn
  clear HBn HKn HLn
  have hc18 := (show _ = some (Value.slice none 0 0) from blk_cell HB.out 18)
  go_wp2_with fail
  refine (flat72_nil _).mono ?_
  rintro e wn ⟨rfl, hia⟩
  have HBn := Lib.hid (blk_below HB.out hia.out)
  have HKn := Lib.hid (HK.out.below hia.out)
  have HLn := Lib.hid (HL.out.trans (Below.mono hia.out (Nat.zero_le _)))
  clear hc18 HB HK HL 
  try clear hia
  try clear hk hb
  have HB := HBn
  have HK := HKn
  have HL := HLn
  clear HBn HKn HLn
  have hc19 := (show _ = some (Value.slice none 0 0) from blk_cell HB.out 19)
  go_wp2_with fail
  refine (flat73_nil _).mono ?_
  rintro e wn ⟨rfl, hia⟩
  have HBn := Lib.hid (blk_below HB.out hia.out)
  have HKn := Lib.hid (HK.out.below hia.out)
  have HLn := Lib.hid (HL.out.trans (Below.mono hia.out (Nat.zero_le _)))
  clear hc19 HB HK HL 
  try clear hia
  try clear hk hb
  have HB := HBn
  have HK := HKn
  have HL := HLn
  clear HBn HKn HLn
  have hc20 := (show _ = some (Value.slice none 0 0) from blk_cell HB.out 20)
  go_wp2_with fail
  refine (flat74_nil _).mono ?_
  rintro e wn ⟨rfl, hia⟩
  have HBn := Lib.hid (blk_below HB.out hia.out)
  have HKn := Lib.hid (HK.out.below hia.out)
  have HLn := Lib.hid (HL.out.trans (Below.mono hia.out (Nat.zero_le _)))
  clear hc20 HB HK HL 
  try clear hia
  try clear hk hb
  have HB := HBn
  have HK := HKn
  have HL := HLn
  clear HBn HKn HLn
  have hc21 := (show _ = some (Value.slice none 0 0) from blk_cell HB.out 21)
  go_wp2_with fail
  refine (flat75_nil _).mono ?_
  rintro e wn ⟨rfl, hia⟩
  have HBn := Lib.hid (blk_below HB.out hia.out)
  have HKn := Lib.hid (HK.out.below hia.out)
  have HLn := Lib.hid (HL.out.trans (Below.mono hia.out (Nat.zero_le _)))
  clear hc21 HB HK HL 
  try clear hia
  try clear hk hb
  have HB := HBn
  have HK := HKn
  have HL := HLn
  clear HBn HKn HLn
  go_wp2_with fail
  go_ret
  exact ⟨rfl, HK.out, HL.out⟩

theorem Flat.bagged {W w : World} {A B : Option Addr} {c : Nat} {vs : List Value} {xss : List (List UInt8)} (h : Flat W A vs xss) (hb : In W w) (ho : w.ownsRow W.heap.size 34 1 (.slice B vs.length c) vs.length vs) : Flat w B vs xss := by
  have h2 := h.below hb
  have hlt : ∀ (k : Nat) (v : Value), vs[k]? = some v → ∀ q, v.ownBlock = some q → q < W.heap.size := fun k v hv q hq => by
    have hx : xss[k]? = some (xss[k]'(by have := h.len; have := (List.getElem?_eq_some_iff.1 hv).1; omega)) := List.getElem?_eq_getElem _
    exact own_lt (h.own k v _ hv hx).1 q hq
  refine ⟨h.len, h.small, fun k v hv => ?_, fun ad had k v hv he => ?_, h2.own, h.apart⟩
  · obtain ⟨g, cap, hve, hbg, hgl⟩ := ho.form (by have := (List.getElem?_eq_some_iff.1 hv).1; omega)
    injection hve with hB _ _
    subst hB
    refine ⟨⟨g, 0, none⟩, rfl, hgl, ho.cells (g := g) rfl k v hv⟩
  · subst had
    have hl := (List.getElem?_eq_some_iff.1 hv).1
    obtain ⟨g, cap, hve, hbg, hgl⟩ := ho.form (by omega)
    injection hve with hB _ _
    injection hB with hB
    subst hB
    have := hlt k v hv _ he
    simp at this
    omega
theorem bag_new (W : World) : ∃ C, (W.alloc (.cells C 111)).heap[W.heap.size]? = some (.cells (bag (.slice none 0 0)) 111 (0, 0)) ∧ C = bag (.slice none 0 0) := ⟨_, blk_new W _, rfl⟩
set_option maxRecDepth 100000 in
set_option maxHeartbeats 1600000 in
theorem apartBytes_any {A : Option Addr} {c : Nat} {vs : List Value} {xss : List (List UInt8)} {w : World} (hF : Flat w A vs xss) :
    Calls Try.prog 33 #[.slice A vs.length c] w fun e w' => e = .returned (.bool true) ∧ Kept w w' (InRows vs) ∧ Below 0 w w' := by
  have hsmall := hF.small
  have HF := Lib.hid hF
  have hb0 := Lib.hid (blk_new w (.cells (bag (.slice none 0 0)) 111))
  have hin0 := In.alloc (In.refl w) (.cells (bag (.slice none 0 0)) 111)
  clear hF
  go_enter Try.func33, Try.ntmps33
  go_wp2_with fail
  go_loopw [4] (fun i wr => ∃ (k : Nat) (v : Value), k ≤ vs.length ∧ i = .int .i64 k ∧ Hid (wr.heap[w.heap.size]? = some (.cells (bag v) 111 (0, 0))) ∧ Hid (wr.ownsRow w.heap.size 34 1 v (vs.take k).length (vs.take k)) ∧ In w wr) (fun i _ => vs.length - (intOf i).toNat)
  case atStart => exact ⟨0, .slice none 0 0, by omega, rfl, hb0, Lib.hid (own_nil _ _ _ _), hin0⟩
  case round =>
    clear hb0 hin0
    obtain ⟨k, v, hk, rfl, HB, HV, hin⟩ := hrel
    by_cases hlt : k < vs.length
    · obtain ⟨x, hx⟩ : ∃ x, vs[k]? = some x := ⟨vs[k], List.getElem?_eq_getElem hlt⟩
      obtain ⟨ad, rfl, had, hc⟩ := HF.out.cells k x hx
      obtain ⟨xs, hxx⟩ : ∃ xs, xss[k]? = some xs := ⟨xss[k]'(by have := HF.out.len; omega), List.getElem?_eq_getElem _⟩
      obtain ⟨B, cap, rfl⟩ := own_slice (HF.out.own k x xs hx hxx).1
      have hcw := In.cell hc hin
      have HIN := Lib.hid hin
      have HX := Lib.hid hx
      clear hin hx hxx hc
      go_wp2_with fail
      refine (putBytes_any HB.out (Nat.le_refl _) HV.out HIN.out (by rw [List.length_take]; omega)).mono ?_
      rintro e w2 ⟨rfl, hi2, v1, hb1, ho1⟩
      have ht : vs.take k ++ [Value.slice B xs.length cap] = vs.take (k + 1) := by rw [List.take_add_one, HX.out]; rfl
      rw [ht] at ho1
      have HB1 := Lib.hid hb1
      have HO1 := Lib.hid ho1
      clear hb1 ho1 ht
      go_wp2_with fail
      go_roundw
      case rel => exact ⟨k + 1, v1, by omega, by go_num, HB1, HO1, hi2⟩
      case measure => simp [intOf]; omega
    · obtain rfl : k = vs.length := by omega
      have hv := HV.out
      rw [List.take_length] at hv
      obtain ⟨B, cap, rfl⟩ := own_slice hv
      have HFB := Lib.hid (HF.out.bagged hin hv)
      have HIN := Lib.hid hin
      clear hin hv
      go_wp2_with fail
      refine (apart_any HB.out HFB.out (fun i v hv he => ?_)).mono ?_
      · obtain ⟨xs, hxx⟩ : ∃ xs, xss[i]? = some xs := ⟨xss[i]'(by have := HF.out.len; have := (List.getElem?_eq_some_iff.1 hv).1; omega), List.getElem?_eq_getElem _⟩
        have := own_lt (HF.out.own i v xs hv hxx).1 _ he
        omega
      · rintro e w3 ⟨rfl, hk3, hb3⟩
        have HK3 := Lib.hid ((Kept.of_below HIN.out.out (InRows vs)).then_ hk3 (fun q hq => .inl hq))
        have HB3 := Lib.hid ((Below.mono HIN.out.out (Nat.zero_le _)).trans hb3)
        clear hk3 hb3
        go_wp2_with fail
        go_ret
        exact ⟨rfl, HK3.out, HB3.out⟩

end Go.Proofs.Ytkoofoglcheonaa
