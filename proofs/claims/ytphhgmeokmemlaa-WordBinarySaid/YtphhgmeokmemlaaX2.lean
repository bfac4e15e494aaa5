/- Op for op, the program's word and the document's word are one: the plain ops. -/
import Derived.Test.YtphhgmeokmemlaaX1
import Derived.Test.YtphhgmeokmemlaaN10
namespace Go.Proofs.Ytphhgmeokmemlaa
open Go.RowKit Go.Maps
set_option linter.unusedSimpArgs false
set_option linter.unusedVariables false

/-- The program's answer and the document's are the same word and trap. -/
def Agree (op : Int) (N x y : Nat) : Prop := ∃ v t : Nat, ∀ w : World,
  Calls Try.prog 8 #[.int .i64 op, .int .i64 (N : Int), .int .u64 (x : Int), .int .u64 (y : Int)] w (Ret w (.tuple #[.int .u64 (v : Int), .int .i64 (t : Int), .int .i64 0])) ∧
  Calls Try.prog 11 #[.int .i64 op, .int .i64 (N : Int), .int .u64 (x : Int), .int .u64 (y : Int)] w (R2 v t w)

section nat
variable {N x y : Nat} (hN : N = 32 ∨ N = 64) (hx : x < 18446744073709551616) (hy : y < 18446744073709551616)
theorem intN {N : Nat} (hN : N = 32 ∨ N = 64) : (N : Int) = 32 ∨ (N : Int) = 64 := by omega
theorem cutN {N x : Nat} (hN : N = 32 ∨ N = 64) (hx : x < 18446744073709551616) : cut (N : Int) (x : Int) = ((x % 2 ^ N : Nat) : Int) := by
  rcases hN with rfl | rfl
  · show cut 32 _ = _
    simp only [cut, if_true]; omega
  · show cut 64 _ = _
    simp only [cut, show (64 : Int) ≠ 32 by decide, if_false]; omega
theorem md_nat {N : Nat} (hN : N = 32 ∨ N = 64) : md (N : Int) = ((2 ^ N : Nat) : Int) := by
  rcases hN with rfl | rfl <;> rfl
theorem ok_nat {N : Nat} (hN : N = 32 ∨ N = 64) : okBits (N : Int) = true := by
  rcases hN with rfl | rfl <;> rfl
theorem lt_nat {N : Nat} (hN : N = 32 ∨ N = 64) (x : Nat) : x % 2 ^ N < 18446744073709551616 := by
  rcases hN with rfl | rfl <;> omega
theorem pow_le {N : Nat} (hN : N = 32 ∨ N = 64) : 2 ^ N ≤ 18446744073709551616 := by
  rcases hN with rfl | rfl <;> decide
theorem amt_nat {N y : Nat} (hN : N = 32 ∨ N = 64) : amt (N : Int) (y : Int) = y % 2 ^ N % N := by
  unfold amt
  rcases hN with rfl | rfl <;> omega
include hN hx hy
theorem agree_add : Agree 0 N x y := by
  refine ⟨_, 0, fun w => ⟨?_, ref_add N x y (by omega) (by omega) hx hy w⟩⟩
  have := b_add (N : Int) x y (ok_nat hN) (by omega) (by omega) (by omega) (by omega) w
  rw [cut_wrap (intN hN), cutN hN hx, cutN hN hy, md_nat hN, ← Int.natCast_add, ← Int.natCast_emod] at this
  exact this
theorem agree_mul : Agree 2 N x y := by
  refine ⟨_, 0, fun w => ⟨?_, ref_mul N x y (by omega) (by omega) hx hy w⟩⟩
  have := b_mul (N : Int) x y (ok_nat hN) (by omega) (by omega) (by omega) (by omega) w
  rw [cut_wrap (intN hN), cutN hN hx, cutN hN hy, md_nat hN, ← Int.natCast_mul, ← Int.natCast_emod] at this
  exact this
theorem agree_sub : Agree 1 N x y := by
  refine ⟨_, 0, fun w => ⟨?_, ref_sub N x y (by omega) (by omega) hx hy w⟩⟩
  have r := wrap_range (cut (N : Int) x - cut (N : Int) y)
  have := bin_arith 1 (N : Int) x y (ok_nat hN) (by omega) (by omega) (by omega) (by omega) w (by decide) (by decide) _ r.1 r.2 (divides_no _ _ _ _ (Or.inl (by decide)) w) (arith_sub (N : Int) _ _ w)
  rw [cut_wrap (intN hN), cutN hN hx, cutN hN hy, md_nat hN] at this
  have e : ((x % 2 ^ N : Nat) : Int) - ((y % 2 ^ N : Nat) : Int) = ((x % 2 ^ N + (2 ^ N - y % 2 ^ N) : Nat) : Int) + ((2 ^ N : Nat) : Int) * (-1) := by
    have := Nat.mod_lt y (Nat.two_pow_pos N)
    omega
  rw [e, Int.add_mul_emod_self_left, ← Int.natCast_emod] at this
  exact this
theorem agree_bits (op : Int) (o0 : 7 ≤ op) (o1 : op < 15) (v z : Nat) (hz : z < 18446744073709551616) (hv : z % 2 ^ N = v)
    (B : ∀ w, Calls Try.prog 19 #[.int .i64 op, .int .i64 (N : Int), .int .u64 ((x % 2 ^ N : Nat) : Int), .int .u64 ((y % 2 ^ N : Nat) : Int)] w (Ret w (.int .u64 (z : Int))))
    (R : ∀ w, Calls Try.prog 11 #[.int .i64 op, .int .i64 (N : Int), .int .u64 (x : Int), .int .u64 (y : Int)] w (R2 v 0 w)) : Agree op N x y := by
  refine ⟨v, 0, fun w => ⟨?_, R w⟩⟩
  have := bin_bits op (N : Int) x y (ok_nat hN) (by omega) (by omega) (by omega) (by omega) w o0 o1 (z : Int) (by omega) (by omega) (by rw [cutN hN hx, cutN hN hy]; exact B w)
  rw [cutN hN hz, hv] at this
  exact this
theorem agree_and : Agree 7 N x y := by
  have h : (x % 2 ^ N) &&& (y % 2 ^ N) < 2 ^ N := Nat.and_lt_two_pow _ (Nat.mod_lt _ (Nat.two_pow_pos N))
  have := pow_le hN
  exact agree_bits hN hx hy 7 (by decide) (by decide) _ _ (by omega) (Nat.mod_eq_of_lt h) (fun w => bit_and (N : Int) _ _ w (intN hN) (lt_nat hN x) (lt_nat hN y)) (fun w => ref_and N x y (by omega) (by omega) hx hy w)
theorem agree_or : Agree 8 N x y := by
  have h : (x % 2 ^ N) ||| (y % 2 ^ N) < 2 ^ N := Nat.or_lt_two_pow (Nat.mod_lt _ (Nat.two_pow_pos N)) (Nat.mod_lt _ (Nat.two_pow_pos N))
  have := pow_le hN
  exact agree_bits hN hx hy 8 (by decide) (by decide) _ _ (by omega) (Nat.mod_eq_of_lt h) (fun w => bit_or (N : Int) _ _ w (intN hN) (lt_nat hN x) (lt_nat hN y)) (fun w => ref_or N x y (by omega) (by omega) hx hy w)
theorem agree_xor : Agree 9 N x y := by
  have h : (x % 2 ^ N) ^^^ (y % 2 ^ N) < 2 ^ N := Nat.xor_lt_two_pow (Nat.mod_lt _ (Nat.two_pow_pos N)) (Nat.mod_lt _ (Nat.two_pow_pos N))
  have := pow_le hN
  exact agree_bits hN hx hy 9 (by decide) (by decide) _ _ (by omega) (Nat.mod_eq_of_lt h) (fun w => bit_xor (N : Int) _ _ w (intN hN) (lt_nat hN x) (lt_nat hN y)) (fun w => ref_xor N x y (by omega) (by omega) hx hy w)
theorem agree_shl : Agree 10 N x y := by
  refine ⟨_, 0, fun w => ⟨?_, ref_shl N x y (by omega) (by omega) hx hy w⟩⟩
  have := b_shl (N : Int) x y (ok_nat hN) (by omega) (by omega) (by omega) (by omega) w
  rw [cut_wrap (intN hN), amt_nat hN, md_nat hN] at this
  have e : ((x : Int) * 2 ^ (y % 2 ^ N % N)) % ((2 ^ N : Nat) : Int) = (((x % 2 ^ N * 2 ^ (y % 2 ^ N % N)) % 2 ^ N : Nat) : Int) := by
    rw [Nat.mod_mul_mod]
    push_cast
    rfl
  rw [e] at this
  exact this
theorem agree_shr : Agree 12 N x y := by
  refine ⟨_, 0, fun w => ⟨?_, ref_shr N x y (by omega) (by omega) hx hy w⟩⟩
  have := b_shr (N : Int) x y (ok_nat hN) (by omega) (by omega) (by omega) (by omega) w
  have hl : x % 2 ^ N / 2 ^ (y % 2 ^ N % N) < 2 ^ N := Nat.lt_of_le_of_lt (Nat.div_le_self _ _) (Nat.mod_lt _ (Nat.two_pow_pos N))
  have hp := pow_le hN
  rw [amt_nat hN, cutN hN hx, show ((x % 2 ^ N : Nat) : Int) / 2 ^ (y % 2 ^ N % N) = ((x % 2 ^ N / 2 ^ (y % 2 ^ N % N) : Nat) : Int) by push_cast; rfl, cutN hN (by omega), Nat.mod_eq_of_lt hl] at this
  exact this
theorem agree_divu : Agree 4 N x y := by
  by_cases hz : y % 2 ^ N = 0
  · exact ⟨0, 2, fun w => ⟨b_zero (N : Int) x y (ok_nat hN) (by omega) (by omega) (by omega) (by omega) w 4 (by decide) (by decide) (by rw [cutN hN hy, hz]; rfl), ref_divu_zero N x y (by omega) (by omega) hx hy w hz⟩⟩
  · refine ⟨_, 0, fun w => ⟨?_, ref_divu N x y (by omega) (by omega) hx hy w hz⟩⟩
    have := b_divu (N : Int) x y (ok_nat hN) (by omega) (by omega) (by omega) (by omega) w (by rw [cutN hN hy]; omega)
    have hl : x % 2 ^ N / (y % 2 ^ N) < 2 ^ N := Nat.lt_of_le_of_lt (Nat.div_le_self _ _) (Nat.mod_lt _ (Nat.two_pow_pos N))
    have hp := pow_le hN
    rw [cutN hN hx, cutN hN hy, ← Int.natCast_ediv, cutN hN (by omega), Nat.mod_eq_of_lt hl] at this
    exact this
theorem agree_remu : Agree 6 N x y := by
  by_cases hz : y % 2 ^ N = 0
  · exact ⟨0, 2, fun w => ⟨b_zero (N : Int) x y (ok_nat hN) (by omega) (by omega) (by omega) (by omega) w 6 (by decide) (by decide) (by rw [cutN hN hy, hz]; rfl), ref_remu_zero N x y (by omega) (by omega) hx hy w hz⟩⟩
  · refine ⟨_, 0, fun w => ⟨?_, ref_remu N x y (by omega) (by omega) hx hy w hz⟩⟩
    have := b_remu (N : Int) x y (ok_nat hN) (by omega) (by omega) (by omega) (by omega) w (by rw [cutN hN hy]; omega)
    have hl : x % 2 ^ N % (y % 2 ^ N) < 2 ^ N := Nat.lt_of_le_of_lt (Nat.mod_le _ _) (Nat.mod_lt _ (Nat.two_pow_pos N))
    have hp := pow_le hN
    rw [cutN hN hx, cutN hN hy, ← Int.natCast_emod, cutN hN (by omega), Nat.mod_eq_of_lt hl] at this
    exact this
omit hN hx hy in
/-- A word turned, as the document tells. -/
theorem rot_sum {N X s : Nat} (hX : X < 2 ^ N) (hs : s ≤ N) : rot N X s = X / 2 ^ (N - s) + 2 ^ s * (X % 2 ^ (N - s)) := by
  have e : 2 ^ N = 2 ^ s * 2 ^ (N - s) := by rw [← Nat.pow_add]; congr 1; omega
  have h1 : X * 2 ^ s % 2 ^ N = 2 ^ s * (X % 2 ^ (N - s)) := by rw [e, Nat.mul_comm X, Nat.mul_mod_mul_left]
  have h2 : X / 2 ^ (N - s) < 2 ^ s := by
    rw [Nat.div_lt_iff_lt_mul (Nat.two_pow_pos _), ← e]; exact hX
  rw [rot, h1, ← Nat.two_pow_add_eq_or_of_lt h2, Nat.add_comm]
end nat
end Go.Proofs.Ytphhgmeokmemlaa
