/- Op for op, the program's word and the document's word are one: division with a sign, turns to the left. -/
import Derived.Test.YtphhgmeokmemlaaX2
import Derived.Test.YtphhgmeokmemlaaN9
namespace Go.Proofs.Ytphhgmeokmemlaa
open Go.RowKit Go.Maps
set_option linter.unusedSimpArgs false
set_option linter.unusedVariables false

theorem sgnF {N x : Nat} (hN : N = 32 ∨ N = 64) (hx : x < 18446744073709551616) (h : x / 2 ^ (N - 1) % 2 = 0) :
    sgn (N : Int) (x : Int) = ((x % 2 ^ N : Nat) : Int) ∧ x % 2 ^ N < 2 ^ (N - 1) := by
  rcases hN with rfl | rfl
  · show sgn 32 _ = _ ∧ _
    simp only [sgn, if_true, wrap32]
    simp only [Nat.reducePow, Nat.reduceSub] at h ⊢
    omega
  · show sgn 64 _ = _ ∧ _
    simp only [sgn, show (64 : Int) ≠ 32 by decide, if_false, wrap64]
    simp only [Nat.reducePow, Nat.reduceSub] at h ⊢
    omega
theorem sgnT {N x : Nat} (hN : N = 32 ∨ N = 64) (hx : x < 18446744073709551616) (h : x / 2 ^ (N - 1) % 2 = 1) :
    sgn (N : Int) (x : Int) = -(((2 ^ N - x % 2 ^ N) % 2 ^ N : Nat) : Int) ∧ 2 ^ (N - 1) ≤ x % 2 ^ N ∧ (2 ^ N - x % 2 ^ N) % 2 ^ N ≠ 0 ∧ (2 ^ N - x % 2 ^ N) % 2 ^ N + x % 2 ^ N = 2 ^ N := by
  rcases hN with rfl | rfl
  · show sgn 32 _ = _ ∧ _
    simp only [sgn, if_true, wrap32]
    simp only [Nat.reducePow, Nat.reduceSub] at h ⊢
    omega
  · show sgn 64 _ = _ ∧ _
    simp only [sgn, show (64 : Int) ≠ 32 by decide, if_false, wrap64]
    simp only [Nat.reducePow, Nat.reduceSub] at h ⊢
    omega
theorem halfN {N : Nat} (hN : N = 32 ∨ N = 64) : half (N : Int) = ((2 ^ (N - 1) : Nat) : Int) := by
  rcases hN with rfl | rfl <;> rfl
theorem two_half {N : Nat} (hN : N = 32 ∨ N = 64) : 2 ^ N = 2 * 2 ^ (N - 1) := by
  rcases hN with rfl | rfl <;> rfl
theorem negmod {q M : Nat} (hM : 0 < M) (h : q ≤ M) : (-(q : Int)) % (M : Int) = (((M - q) % M : Nat) : Int) := by
  have e : (-(q : Int)) = ((M - q : Nat) : Int) + (M : Int) * (-1) := by omega
  rw [e, Int.add_mul_emod_self_left, ← Int.natCast_emod]
theorem half_bit {H q : Nat} (hH : 0 < H) (h : q < 2 * H) (g : ¬ q / H % 2 = 0) : q / H % 2 = 1 := by omega

section nat
variable {N x y : Nat} (hN : N = 32 ∨ N = 64) (hx : x < 18446744073709551616) (hy : y < 18446744073709551616)
include hN hx hy
theorem agree_divs : Agree 3 N x y := by
  have hP := Nat.two_pow_pos N
  have hH := Nat.two_pow_pos (N - 1)
  have h2 := two_half hN
  have hcx := cutN hN hx
  have hcy := cutN hN hy
  have hh := halfN hN
  by_cases hz : y % 2 ^ N = 0
  · exact ⟨0, 2, fun w => ⟨b_zero (N : Int) x y (ok_nat hN) (by omega) (by omega) (by omega) (by omega) w 3 (by decide) (by decide) (by rw [hcy, hz]; rfl), ref_divs_zero N x y (by omega) (by omega) hx hy w hz⟩⟩
  have hk : cut (N : Int) (y : Int) ≠ 0 := by rw [hcy]; omega
  have hs0 : sgn (N : Int) (y : Int) ≠ 0 := by
    have := sgn_zero (intN hN) (z := (y : Int)) (by omega) (by omega) hk
    rwa [sgn_cut (intN hN)] at this
  have plain : ∀ (q : Int) (v : Nat), ¬ (sgn (N : Int) (y : Int) = -1 ∧ cut (N : Int) (x : Int) = half (N : Int)) → (sgn (N : Int) (x : Int)).tdiv (sgn (N : Int) (y : Int)) = q → q % md (N : Int) = (v : Int) → ∀ w : World,
      Calls Try.prog 8 #[.int .i64 3, .int .i64 (N : Int), .int .u64 (x : Int), .int .u64 (y : Int)] w (Ret w (.tuple #[.int .u64 (v : Int), .int .i64 0, .int .i64 0])) := by
    intro q v hv e1 e2 w
    have := b_divs (N : Int) x y (ok_nat hN) (by omega) (by omega) (by omega) (by omega) w hk (tdiv_fits (ok_nat hN) (by omega) (by omega) hs0 hv) hv
    rw [e1, e2] at this
    exact this
  rcases Nat.mod_two_eq_zero_or_one (x / 2 ^ (N - 1)) with ha | ha <;> rcases Nat.mod_two_eq_zero_or_one (y / 2 ^ (N - 1)) with hb | hb
  · have sx := sgnF hN hx ha
    have sy := sgnF hN hy hb
    have hq : x % 2 ^ N / (y % 2 ^ N) < 2 ^ (N - 1) := Nat.lt_of_le_of_lt (Nat.div_le_self _ _) sx.2
    refine ⟨x % 2 ^ N / (y % 2 ^ N), 0, fun w => ⟨plain _ _ ?_ rfl ?_ w, ref_divs_ff_n N x y (by omega) (by omega) hx hy w ha hb hz hz ?_ _ rfl⟩⟩
    · rintro ⟨h, _⟩
      rw [sy.1] at h
      omega
    · rw [sx.1, sy.1, ← Int.ofNat_tdiv, md_nat hN, ← Int.natCast_emod, Nat.mod_eq_of_lt (by omega)]
    · rw [Nat.div_eq_of_lt hq]
  · have sx := sgnF hN hx ha
    have sy := sgnT hN hy hb
    have hq : x % 2 ^ N / ((2 ^ N - y % 2 ^ N) % 2 ^ N) ≤ x % 2 ^ N := Nat.div_le_self _ _
    refine ⟨(2 ^ N - x % 2 ^ N / ((2 ^ N - y % 2 ^ N) % 2 ^ N)) % 2 ^ N, 0, fun w => ⟨plain _ _ ?_ rfl ?_ w, ref_divs_ft N x y (by omega) (by omega) hx hy w ha hb hz sy.2.2.1 _ rfl⟩⟩
    · rintro ⟨_, h⟩
      rw [hcx, hh] at h
      omega
    · rw [sx.1, sy.1, Int.tdiv_neg, ← Int.ofNat_tdiv, md_nat hN, negmod hP (by omega)]
  · have sx := sgnT hN hx ha
    have sy := sgnF hN hy hb
    have hq : (2 ^ N - x % 2 ^ N) % 2 ^ N / (y % 2 ^ N) ≤ (2 ^ N - x % 2 ^ N) % 2 ^ N := Nat.div_le_self _ _
    refine ⟨(2 ^ N - (2 ^ N - x % 2 ^ N) % 2 ^ N / (y % 2 ^ N)) % 2 ^ N, 0, fun w => ⟨plain _ _ ?_ rfl ?_ w, ref_divs_tf N x y (by omega) (by omega) hx hy w ha hb hz hz _ rfl⟩⟩
    · rintro ⟨h, _⟩
      rw [sy.1] at h
      omega
    · rw [sx.1, sy.1, Int.neg_tdiv, ← Int.ofNat_tdiv, md_nat hN, negmod hP (by omega)]
  · have sx := sgnT hN hx ha
    have sy := sgnT hN hy hb
    generalize hX : (2 ^ N - x % 2 ^ N) % 2 ^ N = X at sx
    generalize hY : (2 ^ N - y % 2 ^ N) % 2 ^ N = Y at sy
    have hq : X / Y ≤ X := Nat.div_le_self _ _
    by_cases ho : X / Y / 2 ^ (N - 1) % 2 = 0
    · have hq2 : X / Y < 2 ^ (N - 1) := by
        refine Nat.lt_of_not_le fun h => ?_
        have : 1 ≤ X / Y / 2 ^ (N - 1) := (Nat.le_div_iff_mul_le hH).2 (by omega)
        have : X / Y / 2 ^ (N - 1) < 2 := (Nat.div_lt_iff_lt_mul hH).2 (by omega)
        omega
      refine ⟨X / Y, 0, fun w => ⟨plain _ _ ?_ rfl ?_ w, ref_divs_tt_n N x y (by omega) (by omega) hx hy w ha hb hz (by rw [hY]; exact sy.2.2.1) (by rw [hX, hY]; exact ho) _ (by rw [hX, hY])⟩⟩
      · rintro ⟨h, h'⟩
        rw [hcx, hh] at h'
        rw [sy.1] at h
        have hY1 : Y = 1 := by omega
        rw [hY1, Nat.div_one] at hq2
        omega
      · rw [sx.1, sy.1, Int.neg_tdiv_neg, ← Int.ofNat_tdiv, md_nat hN, ← Int.natCast_emod, Nat.mod_eq_of_lt (by omega)]
    · have hq2 : 2 ^ (N - 1) ≤ X / Y := by
        refine Nat.le_of_not_lt fun h => ho ?_
        rw [Nat.div_eq_of_lt h]
      have hY1 : Y = 1 := by
        rcases Nat.lt_or_ge Y 2 with h | h
        · omega
        · have := Nat.div_le_div_left h (by decide) (a := X)
          omega
      have hX1 : X = 2 ^ (N - 1) := by
        rw [hY1, Nat.div_one] at hq2
        omega
      refine ⟨0, 3, fun w => ⟨b_over (N : Int) x y (ok_nat hN) (by omega) (by omega) (by omega) (by omega) w hk ⟨by rw [sy.1, hY1]; rfl, by rw [hcx, hh]; omega⟩, ref_divs_tt_o N x y (by omega) (by omega) hx hy w ha hb hz (by rw [hY]; exact sy.2.2.1) (by rw [hX, hY]; omega) _ rfl⟩⟩
theorem agree_rems : Agree 5 N x y := by
  have hP := Nat.two_pow_pos N
  have hH := Nat.two_pow_pos (N - 1)
  have h2 := two_half hN
  have hcx := cutN hN hx
  have hcy := cutN hN hy
  by_cases hz : y % 2 ^ N = 0
  · exact ⟨0, 2, fun w => ⟨b_zero (N : Int) x y (ok_nat hN) (by omega) (by omega) (by omega) (by omega) w 5 (by decide) (by decide) (by rw [hcy, hz]; rfl), ref_rems_zero N x y (by omega) (by omega) hx hy w hz⟩⟩
  have hk : cut (N : Int) (y : Int) ≠ 0 := by rw [hcy]; omega
  have plain : ∀ (q : Int) (v : Nat), (sgn (N : Int) (x : Int)).tmod (sgn (N : Int) (y : Int)) = q → q % md (N : Int) = (v : Int) → ∀ w : World,
      Calls Try.prog 8 #[.int .i64 5, .int .i64 (N : Int), .int .u64 (x : Int), .int .u64 (y : Int)] w (Ret w (.tuple #[.int .u64 (v : Int), .int .i64 0, .int .i64 0])) := by
    intro q v e1 e2 w
    have := b_rems (N : Int) x y (ok_nat hN) (by omega) (by omega) (by omega) (by omega) w hk
    rw [e1, e2] at this
    exact this
  rcases Nat.mod_two_eq_zero_or_one (x / 2 ^ (N - 1)) with ha | ha <;> rcases Nat.mod_two_eq_zero_or_one (y / 2 ^ (N - 1)) with hb | hb
  · have sx := sgnF hN hx ha
    have sy := sgnF hN hy hb
    have hq : x % 2 ^ N % (y % 2 ^ N) ≤ x % 2 ^ N := Nat.mod_le _ _
    refine ⟨x % 2 ^ N % (y % 2 ^ N), 0, fun w => ⟨plain _ _ rfl ?_ w, ref_rems_ff N x y (by omega) (by omega) hx hy w ha hb hz hz _ rfl⟩⟩
    rw [sx.1, sy.1, ← Int.ofNat_tmod, md_nat hN, ← Int.natCast_emod, Nat.mod_eq_of_lt (by omega)]
  · have sx := sgnF hN hx ha
    have sy := sgnT hN hy hb
    have hq : x % 2 ^ N % ((2 ^ N - y % 2 ^ N) % 2 ^ N) ≤ x % 2 ^ N := Nat.mod_le _ _
    refine ⟨x % 2 ^ N % ((2 ^ N - y % 2 ^ N) % 2 ^ N), 0, fun w => ⟨plain _ _ rfl ?_ w, ref_rems_ft N x y (by omega) (by omega) hx hy w ha hb hz sy.2.2.1 _ rfl⟩⟩
    rw [sx.1, sy.1, Int.tmod_neg, ← Int.ofNat_tmod, md_nat hN, ← Int.natCast_emod, Nat.mod_eq_of_lt (by omega)]
  · have sx := sgnT hN hx ha
    have sy := sgnF hN hy hb
    have hq : (2 ^ N - x % 2 ^ N) % 2 ^ N % (y % 2 ^ N) ≤ (2 ^ N - x % 2 ^ N) % 2 ^ N := Nat.mod_le _ _
    refine ⟨(2 ^ N - (2 ^ N - x % 2 ^ N) % 2 ^ N % (y % 2 ^ N)) % 2 ^ N, 0, fun w => ⟨plain _ _ rfl ?_ w, ref_rems_tf N x y (by omega) (by omega) hx hy w ha hb hz hz _ rfl⟩⟩
    rw [sx.1, sy.1, Int.neg_tmod, ← Int.ofNat_tmod, md_nat hN, negmod hP (by omega)]
  · have sx := sgnT hN hx ha
    have sy := sgnT hN hy hb
    have hq : (2 ^ N - x % 2 ^ N) % 2 ^ N % ((2 ^ N - y % 2 ^ N) % 2 ^ N) ≤ (2 ^ N - x % 2 ^ N) % 2 ^ N := Nat.mod_le _ _
    refine ⟨(2 ^ N - (2 ^ N - x % 2 ^ N) % 2 ^ N % ((2 ^ N - y % 2 ^ N) % 2 ^ N)) % 2 ^ N, 0, fun w => ⟨plain _ _ rfl ?_ w, ref_rems_tt N x y (by omega) (by omega) hx hy w ha hb hz sy.2.2.1 _ rfl⟩⟩
    rw [sx.1, sy.1, Int.tmod_neg, Int.neg_tmod, ← Int.ofNat_tmod, md_nat hN, negmod hP (by omega)]
theorem agree_rotl : Agree 13 N x y := by
  have hP := Nat.two_pow_pos N
  have hX := Nat.mod_lt x hP
  have hs : y % 2 ^ N % N ≤ N := Nat.le_of_lt (Nat.mod_lt _ (by omega))
  have R := fun w => ref_rotl N x y (by omega) (by omega) hx hy w
  rw [← rot_sum hX hs] at R
  have hl : rot N (x % 2 ^ N) (y % 2 ^ N % N) < 2 ^ N := Nat.or_lt_two_pow (Nat.mod_lt _ hP) (Nat.lt_of_le_of_lt (Nat.div_le_self _ _) hX)
  have hp := pow_le hN
  refine agree_bits hN hx hy 13 (by decide) (by decide) _ _ (by omega) (Nat.mod_eq_of_lt hl) ?_ R
  intro w
  rcases hN with rfl | rfl
  · exact bit_rotl32 (x % 2 ^ 32) (y % 2 ^ 32) (by omega) (by omega) w
  · exact bit_rotl64 (x % 2 ^ 64) (y % 2 ^ 64) (by omega) (by omega) w
end nat
end Go.Proofs.Ytphhgmeokmemlaa
