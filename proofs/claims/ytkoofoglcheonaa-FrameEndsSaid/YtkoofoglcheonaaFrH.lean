/- What the laws of layer 3 call: great, SameBytes, equal, the example. -/
import Derived.Test.YtkoofoglcheonaaFrG
namespace Go.Proofs.Ytkoofoglcheonaa
set_option linter.unusedVariables false
set_option linter.unusedSimpArgs false
open Go.RowKit Go.Proofs.YtkoofoglcheonaaW.PrintWords

set_option maxHeartbeats 400000 in
theorem same_any {A B : Option Addr} {c d : Nat} {xs : List UInt8} {w : World} (hA : byte.C w A xs.length xs) (hB : byte.C w B xs.length xs) :
    Calls Try.prog 30 #[.slice A xs.length c, .slice B xs.length d] w fun e w' => e = .returned (.bool true) ∧ Drawn0 w w' := by
  have hm := (byte_len hA).2
  go_enter Try.func30, Try.ntmps30
  go_wp2_with fail
  go_loopw [5] (fun i wr => ∃ j : Nat, j ≤ xs.length ∧ i = .int .i64 j ∧ Drawn0 w wr) (fun i _ => xs.length - (intOf i).toNat)
  case atStart => exact ⟨0, by omega, rfl, Drawn0.refl _⟩
  case round =>
    obtain ⟨j, hj, rfl, ⟨m, rfl⟩⟩ := hrel
    by_cases hl : j < xs.length
    · obtain ⟨ad, x, rfl, hx, hc⟩ := byte_at hA hl
      obtain ⟨ad2, x2, rfl, hx2, hc2⟩ := byte_at hB hl
      obtain rfl : x = x2 := by rw [hx] at hx2; exact Option.some.inj hx2
      clear hx hx2
      go_wp2_with fail
      go_quiet (fail)
      go_wp2_with fail
      go_roundw
      case rel => exact ⟨j + 1, by omega, by go_num, ⟨_, rfl⟩⟩
      case measure => simp [intOf]; omega
    · obtain rfl : j = xs.length := by omega
      go_wp2_with fail
      go_ret
      exact ⟨rfl, ⟨_, rfl⟩⟩
theorem same_n {A B : Option Addr} {n c d : Nat} {xs : List UInt8} {w : World} (hA : byte.C w A n xs) (hB : byte.C w B n xs) :
    Calls Try.prog 30 #[.slice A n c, .slice B n d] w fun e w' => e = .returned (.bool true) ∧ Drawn0 w w' := by
  obtain rfl := hA.1
  exact same_any hA hB
theorem sum1Q {g S : Nat} {xs : List UInt8} {W : World} (h : Crc.sum xs = S) (h0 : RC W g 0 xs) :
    Calls Try.prog 14 #[.slice (some ⟨g, 0, none⟩) 1 1] W fun e w' => e = .returned (.int .u32 S) ∧ In W w' := by
  have := sum_any _ 1 1 [xs] W (rc1 h0)
  simp only [List.flatten_cons, List.flatten_nil, List.append_nil] at this
  rw [h] at this
  exact this
theorem nine_lit (W : World) (S : Nat) (hS : S < 4294967296) : byte.C (W.alloc (.cells #[.int .u8 0, .int .u8 0, .int .u8 0, .int .u8 0, .int .u8 7, .int .u8 ((S : Int) % 256), .int .u8 ((S : Int) / 256 % 256), .int .u8 ((S : Int) / 65536 % 256), .int .u8 ((S : Int) / 16777216)] 5)) (some ⟨W.heap.size, 0, none⟩) 9 ([0, 0, 0, 0, 7] ++ Frm.four S) := by
  have h := byte_lit W ([0, 0, 0, 0, 7] ++ Frm.four S) (by simp [Frm.four])
  have h0 : (UInt8.ofNat S).toNat = S % 256 := Frm.toNat_of S
  have h1 : (UInt8.ofNat (S / 256)).toNat = S / 256 % 256 := Frm.toNat_of _
  have h2 : (UInt8.ofNat (S / 65536)).toNat = S / 65536 % 256 := Frm.toNat_of _
  have h3 : (UInt8.ofNat (S / 16777216)).toNat = S / 16777216 % 256 := Frm.toNat_of _
  rw [show S / 16777216 % 256 = S / 16777216 from by omega] at h3
  have hc : encs encB ([0, 0, 0, 0, 7] ++ Frm.four S) = [.int .u8 0, .int .u8 0, .int .u8 0, .int .u8 0, .int .u8 7, .int .u8 ((S : Int) % 256), .int .u8 ((S : Int) / 256 % 256), .int .u8 ((S : Int) / 65536 % 256), .int .u8 ((S : Int) / 16777216)] := by
    unfold Frm.four encs encB
    simp only [List.cons_append, List.nil_append, List.map_cons, List.map_nil, h0, h1, h2, h3]
    simp
  rw [hc] at h
  exact h
theorem quiet_drawn {P : Program} {f : FuncId} {args : Array Value} {w : World} {m n : Nat} {v : Value}
    (h : Calls P f args (w.drewN (m + n)) fun e w' => e = .returned v ∧ Drawn0 (w.drewN (m + n)) w') : Calls P f args (w.drewN (m + n)) fun e w'' => e = .returned v ∧ ∃ q, w'' = w.drewN (m + q) :=
  h.mono fun _ _ ⟨he, q, hq⟩ => ⟨he, n + q, by rw [hq, World.drewN_drewN, Nat.add_assoc]⟩
set_option maxHeartbeats 800000 in
theorem equal_any {A B : Option Addr} {c d : Nat} {xs : List Fr} {w : World} (hA : frK.C w A xs.length xs) (hB : frK.C w B xs.length xs) :
    Calls Try.prog 35 #[.slice A xs.length c, .slice B xs.length d] w fun e w' => e = .returned (.bool true) ∧ Drawn0 w w' := by
  have hm := hA.2.1
  go_enter Try.func35, Try.ntmps35
  go_wp2_with fail
  go_loopw [5] (fun i wr => ∃ j : Nat, j ≤ xs.length ∧ i = .int .i64 j ∧ Drawn0 w wr) (fun i _ => xs.length - (intOf i).toNat)
  case atStart => exact ⟨0, by omega, rfl, Drawn0.refl _⟩
  case round =>
    obtain ⟨j, hj, rfl, ⟨m, rfl⟩⟩ := hrel
    by_cases hl : j < xs.length
    · obtain ⟨ad, x, A1, c1, rfl, hx, h0, h1, hle1, hC1⟩ := frK_at hA hl
      obtain ⟨ad2, x2, A2, c2, rfl, hx2, k0, k1, hle2, hC2⟩ := frK_at hB hl
      obtain rfl : x = x2 := by rw [hx] at hx2; exact Option.some.inj hx2
      have HC := Lib.hid (fun q : Nat => quiet_drawn (n := q) (m := m) (w := w) (same_any (c := c1) (d := c2) (Kd.C_below hC1 (pw_below_drewN (Below.refl _ _) _)) (Kd.C_below hC2 (pw_below_drewN (Below.refl _ _) _))))
      clear hx hx2 hC1 hC2
      have hne : ((x.k : Int) != x.k) = false := by simp
      go_wp2_with fail
      go_quiet ((go_at_call 30; exact HC.out _))
      go_wp2_with fail
      go_roundw
      case rel => exact ⟨j + 1, by omega, by go_num, ⟨_, rfl⟩⟩
      case measure => simp [intOf]; omega
    · obtain rfl : j = xs.length := by omega
      go_wp2_with fail
      go_ret
      exact ⟨rfl, ⟨_, rfl⟩⟩
/-- How much is gone through. -/
def Frm.much (l : List Fr) : Nat := l.length + (l.map fun f => f.d.length).sum
theorem Frm.much_snoc {l : List Fr} {k : Nat} {f : Fr} (h : l[k]? = some f) : ((l.take (k + 1)).map fun f => f.d.length).sum = ((l.take k).map fun f => f.d.length).sum + f.d.length := by
  rw [List.take_add_one, h, List.map_append, List.sum_append]
  simp
theorem Frm.size_much (l : List Fr) : Frm.size l ≤ 9 * Frm.much l := by
  induction l with
  | nil => simp [Frm.size]
  | cons f l ih =>
    unfold Frm.much at *
    simp only [Frm.size, List.length_cons, List.map_cons, List.sum_cons]
    omega
set_option maxHeartbeats 800000 in
theorem great3_any {A : Option Addr} {c : Nat} {l : List Fr} {w : World} (hA : frK.C w A l.length l) (hn : l.length ≤ 200000000000000) (hrl : ∀ f ∈ l, f.d.length ≤ 200000000000000) :
    Calls Try.prog 22 #[.slice A l.length c] w (Greater (Frm.much l ≤ 8000) w) := by
  go_enter Try.func22, Try.ntmps22
  go_wp2_with fail
  go_loop [3, 4] (fun x i => ∃ k n : Nat, k ≤ l.length ∧ i = .int .i64 k ∧ x = .int .i64 n ∧ n = l.length + ((l.take k).map fun f => f.d.length).sum ∧ n ≤ 300000000000000) (fun _ i => l.length - (intOf i).toNat)
  case atStart => exact ⟨0, l.length, by omega, rfl, rfl, by simp, by omega⟩
  case round =>
    obtain ⟨k, n, hk, rfl, rfl, hnn, hn2⟩ := hrel
    have HN := Lib.hid hnn
    clear hnn
    by_cases hlt : k < l.length
    · by_cases h2 : n ≤ 8000
      · obtain ⟨ad, f, A1, c1, rfl, hx, h0, h1, hle1, hC1⟩ := frK_at hA hlt
        have hxl := hrl f (List.mem_of_getElem? hx)
        have hfl := Lib.hid (Frm.much_snoc hx)
        clear hx
        go_wp2_with fail
        go_round
        case rel => exact ⟨k + 1, n + f.d.length, by omega, by go_num, by go_num, by rw [hfl.out, HN.out]; omega, by omega⟩
        case measure => simp [intOf]; omega
      · have hd : decide (8000 < (n : Int)) = true := decide_eq_true (by omega)
        go_wp2_with fail
        go_ret
        exact ⟨true, rfl, rfl, by simp⟩
    · obtain rfl : k = l.length := by omega
      rw [List.take_length] at HN
      go_wp2_with fail
      go_ret
      refine ⟨decide (8000 < (n : Int)), rfl, rfl, fun h => ?_⟩
      have h := of_decide_eq_false h
      have := HN.out
      unfold Frm.much
      omega
theorem five_sum : Crc.sum [0, 0, 0, 0, 7] ≠ 0 := by decide +kernel
theorem five_one : Frm.flat [⟨7, []⟩] = [0, 0, 0, 0, 7] ++ Frm.four (Crc.sum [0, 0, 0, 0, 7]) := by
  simp only [Frm.flat, List.append_nil]
  rfl
set_option maxRecDepth 100000 in
set_option maxHeartbeats 800000 in
theorem awake3_any (w : World) : Calls Try.prog 23 #[] w fun e w' => e = .returned (.bool true) ∧ In w w' := by
  have hK : frK.C (w.alloc (.cells #[.int .i64 7, .slice none 0 0] 44)) (some ⟨w.heap.size, 0, none⟩) 1 [⟨7, []⟩] := by
    refine ⟨rfl, by omega, fun _ => ⟨_, rfl, fun j p hp => ?_⟩⟩
    match j, hp with
    | 0, hp =>
      cases hp
      refine ⟨[.int .i64 7, .slice none 0 0], rfl, frK_mk (x := ⟨7, []⟩) (Nat.le_refl _) (byte_nil _), fun i u hu => ?_⟩
      have := blk_cell (blk_new w (.cells #[.int .i64 7, .slice none 0 0] 44)) i
      rw [show (0 * frK.sz + i) = i from by omega, add_plain]
      rw [this, ← hu, List.getElem?_toArray]
  have HP := Lib.hid (put_any (c := 1) hK (by decide))
  have hin := In.alloc (In.refl w) (.cells #[.int .i64 7, .slice none 0 0] 44)
  clear hK
  go_enter Try.func23, Try.ntmps23
  go_wp2_with fail
  refine HP.out.mono ?_
  rintro e w1 ⟨hin1, ⟨hz, v, rfl, hv⟩ | ⟨hne, _⟩⟩
  rotate_left
  · exact absurd (show Frm.putE [⟨7, []⟩] = 0 by decide) hne
  rw [five_one] at hv
  obtain ⟨S, hS⟩ : ∃ S, S = Crc.sum [0, 0, 0, 0, 7] := ⟨_, rfl⟩
  rw [← hS] at hv
  have hSl : S < 4294967296 := by rw [hS]; exact Crc.sum_lt _
  have hS0 : ((S : Int) != 0) = true := by
    rw [bne_iff_ne, hS]
    have := five_sum
    omega
  have HS := Lib.hid hS.symm
  clear hS
  obtain ⟨q, hq⟩ : ∃ q, q = [0, 0, 0, 0, 7] ++ Frm.four S := ⟨_, rfl⟩
  rw [← hq] at hv
  have hql : q.length = 9 := by rw [hq]; rfl
  have HQ := Lib.hid hq
  clear hq
  obtain ⟨A, c, rfl, hle, hC⟩ := hv.reads
  rw [hql] at hC hle ⊢
  have HC := Lib.hid hC
  have hiw := In.trans hin hin1
  clear HP hz hv hin1 hin hql hC
  go_upto_region 2 with (fail)
  have HL := Lib.hid (byte_lit w1 [0, 0, 0, 0, 7] (by decide))
  go_wp2_with fail
  refine (sum1Q HS.out (RC.mk (some ⟨w1.heap.size, 0, none⟩) 5 5 (by go_simp; done) (by omega) (Kd.C_below HL.out (In.alloc (In.refl _) _).out))).mono ?_
  rintro e w2 ⟨rfl, hi2⟩
  have hi2' : In w1 w2 := In.trans (In.alloc (In.alloc (In.refl _) _) _) hi2
  have hiw2 := In.trans hiw hi2'
  have HC2 := Lib.hid (Kd.C_below HC.out hi2'.out)
  have HN := Lib.hid (nine_lit w2 S hSl)
  rw [← HQ.out] at HN
  clear HL HC hi2
  have hsame := Lib.hid (same_n (c := c) (d := 9) (Kd.C_below HC2.out (In.alloc (In.refl w2) _).out) HN.out)
  go_wp2_with fail
  refine hsame.out.mono ?_
  rintro e w3 ⟨rfl, hd⟩
  go_wp2_with fail
  go_ret
  exact ⟨rfl, In.trans hiw2 (In.trans (In.alloc (In.refl _) _) (In.drawn (In.refl _) hd))⟩
end Go.Proofs.Ytkoofoglcheonaa
