/- The turn to the right; the law of the binary ops. -/
import Derived.Test.YtphhgmeokmemlaaX4
import Derived.Test.YtphhgmeokmemlaaN11
namespace Go.Proofs.Ytphhgmeokmemlaa
open Go.RowKit Go.Maps
set_option linter.unusedSimpArgs false
set_option linter.unusedVariables false

section nat
variable {N x y : Nat} (hN : N = 32 ∨ N = 64) (hx : x < 18446744073709551616) (hy : y < 18446744073709551616)
include hN hx hy
theorem agree_rotr : Agree 14 N x y := by
  have hP := Nat.two_pow_pos N
  have hX := Nat.mod_lt x hP
  have hs : y % 2 ^ N % N < N := Nat.mod_lt _ (by omega)
  have R := fun w => ref_rotr N x y (by omega) (by omega) hx hy w
  have e : x % 2 ^ N / 2 ^ (y % 2 ^ N % N) + 2 ^ (N - y % 2 ^ N % N) * (x % 2 ^ N % 2 ^ (y % 2 ^ N % N)) = rot N (x % 2 ^ N) ((N - y % 2 ^ N % N) % N) := by
    by_cases hk : y % 2 ^ N % N = 0
    · rw [hk, Nat.sub_zero, Nat.mod_self, rot_sum hX (Nat.zero_le _), Nat.sub_zero, Nat.pow_zero, Nat.div_one, Nat.mod_one, Nat.mul_zero, Nat.add_zero, Nat.div_eq_of_lt hX, Nat.mod_eq_of_lt hX]
      omega
    · rw [Nat.mod_eq_of_lt (show N - y % 2 ^ N % N < N by omega), rot_sum hX (Nat.sub_le _ _), show N - (N - y % 2 ^ N % N) = y % 2 ^ N % N by omega]
  rw [e] at R
  have hl : rot N (x % 2 ^ N) ((N - y % 2 ^ N % N) % N) < 2 ^ N := Nat.or_lt_two_pow (Nat.mod_lt _ hP) (Nat.lt_of_le_of_lt (Nat.div_le_self _ _) hX)
  have hp := pow_le hN
  refine agree_bits hN hx hy 14 (by decide) (by decide) _ _ (by omega) (Nat.mod_eq_of_lt hl) ?_ R
  intro w
  rcases hN with rfl | rfl
  · exact bit_rotr32 (x % 2 ^ 32) (y % 2 ^ 32) (by omega) (by omega) w
  · exact bit_rotr64 (x % 2 ^ 64) (y % 2 ^ 64) (by omega) (by omega) w
theorem agree_all (o : Nat) (ho : o < 15) : Agree (o : Int) N x y := by
  match o, ho with
  | 0, _ => exact agree_add hN hx hy
  | 1, _ => exact agree_sub hN hx hy
  | 2, _ => exact agree_mul hN hx hy
  | 3, _ => exact agree_divs hN hx hy
  | 4, _ => exact agree_divu hN hx hy
  | 5, _ => exact agree_rems hN hx hy
  | 6, _ => exact agree_remu hN hx hy
  | 7, _ => exact agree_and hN hx hy
  | 8, _ => exact agree_or hN hx hy
  | 9, _ => exact agree_xor hN hx hy
  | 10, _ => exact agree_shl hN hx hy
  | 11, _ => exact agree_sar hN hx hy
  | 12, _ => exact agree_shr hN hx hy
  | 13, _ => exact agree_rotl hN hx hy
  | 14, _ => exact agree_rotr hN hx hy
end nat

theorem binary_law (op n a b : Int) (h0 : 0 ≤ a) (h1 : a < 18446744073709551616) (g0 : 0 ≤ b) (g1 : b < 18446744073709551616) (w : World) :
    Calls Try.prog 3 #[.int .i64 op, .int .i64 n, .int .u64 a, .int .u64 b] w (RetT w (.bool true)) := by
  by_cases h : okBits n = false ∨ op < 0 ∨ 14 < op
  · exact binary_bad op n a b h w
  · have hb : okBits n = true := by
      cases hh : okBits n with
      | true => rfl
      | false => exact absurd (Or.inl hh) h
    have hn := bits_of hb
    obtain ⟨x, rfl⟩ := Int.eq_ofNat_of_zero_le h0
    obtain ⟨y, rfl⟩ := Int.eq_ofNat_of_zero_le g0
    have ho : 0 ≤ op ∧ op ≤ 14 := by
      constructor
      · exact Int.not_lt.1 (fun e => h (Or.inr (Or.inl e)))
      · exact Int.not_lt.1 (fun e => h (Or.inr (Or.inr e)))
    obtain ⟨o, rfl⟩ := Int.eq_ofNat_of_zero_le ho.1
    have : ∃ k : Nat, n = (k : Int) ∧ (k = 32 ∨ k = 64) := by
      rcases hn with rfl | rfl
      · exact ⟨32, rfl, Or.inl rfl⟩
      · exact ⟨64, rfl, Or.inr rfl⟩
    obtain ⟨k, rfl, hk⟩ := this
    exact binary_agree o k x y hk ho.1 ho.2 (agree_all hk (by omega) (by omega) o (by omega)) w
end Go.Proofs.Ytphhgmeokmemlaa
