/- The walks of package frame, second part: the kind of frames, a number of four bytes, head. -/
import Derived.Test.YtkoofoglcheonaaFrA
namespace Go.Proofs.Ytkoofoglcheonaa
set_option linter.unusedVariables false
set_option linter.unusedSimpArgs false
open Go.RowKit Go.Proofs.YtkoofoglcheonaaW.PrintWords

def frK : Kd Fr := Kd.iso (Kd.pair (Kd.int .i64) bytes) (fun x : Fr => (x.k, x.d))
theorem frK_sz : frK.sz = 2 := rfl
theorem frK_open {w : World} {x : Fr} {cs : List Value} (h : frK.K w x cs) : ∃ A c, cs = [.int .i64 x.k, .slice A x.d.length c] ∧ x.d.length ≤ c ∧ byte.C w A x.d.length x.d := by
  obtain ⟨_, _, rfl, rfl, ⟨A1, c1, rfl, l1, g1⟩⟩ := h
  exact ⟨A1, c1, rfl, l1, g1⟩
theorem frK_openM {w : World} {base : Nat} {ok : Nat → Prop} {x : Fr} {cs : List Value} (h : frK.M w base ok x cs) : ∃ v, cs = [.int .i64 x.k, v] ∧ byte.R 5 w base ok v x.d := by
  obtain ⟨_, _, rfl, rfl, ⟨v1, rfl, g1⟩⟩ := h
  exact ⟨v1, rfl, g1⟩
theorem frK_mk {w : World} {x : Fr} {A : Option Addr} {c : Nat} (l : x.d.length ≤ c) (g : byte.C w A x.d.length x.d) : frK.K w x [.int .i64 x.k, .slice A x.d.length c] := ⟨[.int .i64 x.k], [.slice A x.d.length c], rfl, rfl, ⟨A, c, rfl, l, g⟩⟩
theorem frK_mkM {w : World} {base : Nat} {ok : Nat → Prop} {x : Fr} {v : Value} (g : byte.R 5 w base ok v x.d) : frK.M w base ok x [.int .i64 x.k, v] := ⟨[.int .i64 x.k], [v], rfl, rfl, ⟨v, rfl, g⟩⟩
theorem frK_at {w : World} {A : Option Addr} {n : Nat} {xs : List Fr} (h : frK.C w A n xs) {j : Nat} (hj : j < n) : ∃ ad x A1 c1, A = some ad ∧ xs[j]? = some x ∧ w.cell? (ad.add (j * 2)) = some (.int .i64 x.k) ∧ w.cell? ⟨(ad.add (j * 2)).block, (ad.add (j * 2)).off + 1, none⟩ = some (.slice A1 x.d.length c1) ∧ x.d.length ≤ c1 ∧ byte.C w A1 x.d.length x.d := by
  obtain ⟨h1, h2, h3⟩ := h
  obtain ⟨ad, rfl, hc⟩ := h3 (by omega)
  have hl : j < xs.length := by omega
  obtain ⟨c, hlen, hr, hcell⟩ := hc j _ (List.getElem?_eq_getElem hl)
  obtain ⟨A1, c1, rfl, l1, g1⟩ := frK_open hr
  rw [frK_sz] at hcell
  exact ⟨ad, xs[j], A1, c1, rfl, List.getElem?_eq_getElem hl, hcell 0 _ rfl, by rw [← add_field _ _ 1 (by omega)]; exact hcell 1 _ rfl, l1, g1⟩
def part4 (b : List UInt8) (o : Nat) : Nat → Nat
  | 0 => 0
  | k + 1 => part4 b o k + 256 ^ k * (b.getD (o + k) 0).toNat
theorem part4_num (b : List UInt8) (o : Nat) : part4 b o 4 = Frm.num b o := by
  unfold Frm.num
  simp only [part4, Nat.add_zero]
  omega
theorem or_spelt {a x k : Nat} (ha : a < 256 ^ k) (hx : x < 256) (hk : k < 4) : bits .or .u32 (a : Int) ((x : Int) * 2 ^ (8 * k) % 4294967296) = ((a + 256 ^ k * x : Nat) : Int) := by
  have h2 : (256 : Nat) ^ k = 2 ^ (8 * k) := by rw [Nat.pow_mul]
  rw [h2] at ha ⊢
  have h8 : 2 ^ (8 * k) ≤ 2 ^ 24 := Nat.pow_le_pow_right (by omega) (by omega)
  have h3 : 2 ^ (8 * k) * x ≤ 2 ^ (8 * k) * 255 := Nat.mul_le_mul_left _ (by omega)
  have h4 : ((x : Int) * 2 ^ (8 * k) % 4294967296) = ((2 ^ (8 * k) * x : Nat) : Int) := by
    rw [Int.natCast_mul, Int.natCast_pow, Int.mul_comm, Int.emod_eq_of_lt]
    · rfl
    · exact Int.mul_nonneg (Int.le_of_lt (Int.pow_pos (by omega))) (by omega)
    · have h5 : ((2 ^ (8 * k) * x : Nat) : Int) < 4294967296 := by omega
      rw [Int.natCast_mul, Int.natCast_pow] at h5
      exact h5
  rw [h4, bits_or_u32 _ _ (by omega) (by omega), Nat.or_comm, ← Nat.two_pow_add_eq_or_of_lt ha, Nat.add_comm]
theorem part4_lt (b : List UInt8) (o : Nat) : ∀ k, part4 b o k < 256 ^ k
  | 0 => by simp [part4]
  | k + 1 => by
    have h := part4_lt b o k
    have h2 := (b.getD (o + k) 0).toNat_lt
    rw [part4, Nat.pow_succ]
    have h3 : 256 ^ k * (b.getD (o + k) 0).toNat ≤ 256 ^ k * 255 := Nat.mul_le_mul_left _ (by omega)
    omega
set_option maxHeartbeats 400000 in
theorem number_any {p n c : Nat} {A : Option Addr} {xs : List UInt8} {w : World} (o : Nat) (hc : w.cell? ⟨p, 0, none⟩ = some (.slice A n c)) (hC : byte.C w A n xs) (ho : o + 4 ≤ n) :
    Calls Try.prog 52 #[.pointer (some ⟨p, 0, none⟩), .int .i64 o] w fun e w' => e = .returned (.int .u32 (Frm.num xs o : Nat)) ∧ Drawn0 w w' := by
  obtain ⟨hn, hmx⟩ := byte_len hC
  go_enter Try.func52, Try.ntmps52
  go_wp2_with fail
  go_loopw [5, 6, 7] (fun x _ i wr => ∃ k : Nat, k ≤ 4 ∧ i = .int .i64 k ∧ x = .int .u32 (part4 xs o k : Nat) ∧ Drawn0 w wr) (fun _ _ i _ => 4 - (intOf i).toNat)
  case atStart => exact ⟨0, by omega, rfl, rfl, Drawn0.refl _⟩
  case round =>
    obtain ⟨k, hk, rfl, rfl, ⟨m, rfl⟩⟩ := hrel
    by_cases hlt : k < 4
    · obtain ⟨ad, x, rfl, hx, hcl⟩ := byte_at hC (j := o + k) (by omega)
      have hlt4 := part4_lt xs o k
      have hxl := x.toNat_lt
      have HO := Lib.hid (or_spelt hlt4 hxl hlt)
      have HX := Lib.hid (show xs.getD (o + k) 0 = x by rw [List.getD_eq_getElem?_getD, hx]; rfl)
      clear hx
      go_wp2_with fail
      go_roundw
      case rel => exact ⟨k + 1, by omega, by go_num, by rw [HO.out, part4, HX.out], ⟨m, rfl⟩⟩
      case measure => simp [intOf]; omega
    · obtain rfl : k = 4 := by omega
      rw [part4_num]
      go_wp2_with fail
      go_ret
      exact ⟨rfl, _, rfl⟩
end Go.Proofs.Ytkoofoglcheonaa
