/- The shift with a sign; the law of the binary ops, walked. -/
import Derived.Test.YtphhgmeokmemlaaX3
namespace Go.Proofs.Ytphhgmeokmemlaa
open Go.RowKit Go.Maps
set_option linter.unusedSimpArgs false
set_option linter.unusedVariables false

theorem bit_shrs (n x y : Int) (hn : n = 32 ∨ n = 64) (hx : 0 ≤ x) (hx1 : x < 18446744073709551616) (hy : 0 ≤ y) (hy1 : y < 18446744073709551616) (w : World) :
    Calls Try.prog 19 #[.int .i64 11, .int .i64 n, .int .u64 x, .int .u64 y] w (Ret w (.int .u64 (IntKind.u64.wrap (sgn n x / 2 ^ (y % n).toNat)))) := by
  have S := Lib.hid (sign_ok n x hx hx1 w)
  rcases hn with rfl | rfl
  · have c1 : IntKind.u64.wrap (y % 32) = y % 32 := IntWalk.u64_in _ (by omega)
    have c2 : 0 ≤ y % 32 := by omega
    have c3 : y % 32 < 32 := by omega
    generalize sgn 32 x = X at S ⊢
    go_enter Try.func19, Try.ntmps19
    go_wp2_with fail
    refine S.out.mono ?_
    rintro e w2 ⟨rfl, rfl⟩
    go_wp2_with fail
    go_ret
    exact ⟨rfl, rfl⟩
  · have c1 : IntKind.u64.wrap (y % 64) = y % 64 := IntWalk.u64_in _ (by omega)
    have c2 : 0 ≤ y % 64 := by omega
    have c3 : y % 64 < 64 := by omega
    generalize sgn 64 x = X at S ⊢
    go_enter Try.func19, Try.ntmps19
    go_wp2_with fail
    refine S.out.mono ?_
    rintro e w2 ⟨rfl, rfl⟩
    go_wp2_with fail
    go_ret
    exact ⟨rfl, rfl⟩

section nat
variable {N x y : Nat} (hN : N = 32 ∨ N = 64) (hx : x < 18446744073709551616) (hy : y < 18446744073709551616)
include hN hx hy
theorem agree_sar : Agree 11 N x y := by
  have hP := Nat.two_pow_pos N
  have hp := pow_le hN
  have hX := Nat.mod_lt x hP
  have hs : y % 2 ^ N % N < N := Nat.mod_lt _ (by omega)
  have hcx := cutN hN hx
  have hsg : sgn (N : Int) ((x % 2 ^ N : Nat) : Int) = sgn (N : Int) (x : Int) := by rw [← hcx, sgn_cut (intN hN)]
  have hB := fun w => bit_shrs (N : Int) ((x % 2 ^ N : Nat) : Int) ((y % 2 ^ N : Nat) : Int) (intN hN) (by omega) (by omega) (by omega) (by have := lt_nat hN y; omega) w
  have hk : (((y % 2 ^ N : Nat) : Int) % (N : Int)).toNat = y % 2 ^ N % N := by rw [← Int.natCast_emod, Int.toNat_natCast]
  rw [hsg, hk] at hB
  have key : ∀ v : Nat, (sgn (N : Int) (x : Int) / 2 ^ (y % 2 ^ N % N)) % ((2 ^ N : Nat) : Int) = (v : Int) →
      (if x / 2 ^ (N - 1) % 2 = 1 then x % 2 ^ N / 2 ^ ((y % 2 ^ N) % N) + (2 ^ N - 2 ^ (N - (y % 2 ^ N) % N)) else x % 2 ^ N / 2 ^ ((y % 2 ^ N) % N)) = v → Agree 11 N x y := by
    intro v h1 h2
    generalize sgn (N : Int) (x : Int) / 2 ^ (y % 2 ^ N % N) = V at h1 hB
    have r := wrap_range V
    obtain ⟨z, hz⟩ := Int.eq_ofNat_of_zero_le r.1
    rw [hz] at hB r
    refine agree_bits hN hx hy 11 (by decide) (by decide) v z (by omega) ?_ hB (fun w => ref_sar N x y (by omega) (by omega) hx hy w v h2)
    have e := cut_wrap (intN hN) V
    rw [hz, cutN hN (by omega), md_nat hN, h1] at e
    omega
  have e2 : 2 ^ N = 2 ^ (y % 2 ^ N % N) * 2 ^ (N - y % 2 ^ N % N) := by rw [← Nat.pow_add]; congr 1; omega
  have hl : x % 2 ^ N / 2 ^ (y % 2 ^ N % N) < 2 ^ (N - y % 2 ^ N % N) := by
    rw [Nat.div_lt_iff_lt_mul (Nat.two_pow_pos _), Nat.mul_comm, ← e2]; exact hX
  have hle : 2 ^ (N - y % 2 ^ N % N) ≤ 2 ^ N := Nat.pow_le_pow_right (by decide) (Nat.sub_le _ _)
  rcases Nat.mod_two_eq_zero_or_one (x / 2 ^ (N - 1)) with ha | ha
  · have sx := sgnF hN hx ha
    refine key (x % 2 ^ N / 2 ^ (y % 2 ^ N % N)) ?_ (by rw [if_neg (by omega)])
    rw [sx.1, show (2 : Int) ^ (y % 2 ^ N % N) = ((2 ^ (y % 2 ^ N % N) : Nat) : Int) by push_cast; rfl, ← Int.natCast_ediv, ← Int.natCast_emod, Nat.mod_eq_of_lt (by omega)]
  · have sx := sgnT hN hx ha
    refine key (x % 2 ^ N / 2 ^ (y % 2 ^ N % N) + (2 ^ N - 2 ^ (N - y % 2 ^ N % N))) ?_ (by rw [if_pos ha])
    have e3 : sgn (N : Int) (x : Int) = ((x % 2 ^ N : Nat) : Int) + ((2 ^ (y % 2 ^ N % N) : Nat) : Int) * (-((2 ^ (N - y % 2 ^ N % N) : Nat) : Int)) := by
      have e4 : ((2 ^ (y % 2 ^ N % N) : Nat) : Int) * ((2 ^ (N - y % 2 ^ N % N) : Nat) : Int) = ((2 ^ N : Nat) : Int) := by rw [← Int.natCast_mul, ← e2]
      rw [sx.1, Int.mul_neg, e4]
      omega
    have hq : ((2 ^ (y % 2 ^ N % N) : Nat) : Int) ≠ 0 := by have := Nat.two_pow_pos (y % 2 ^ N % N); omega
    rw [e3, show (2 : Int) ^ (y % 2 ^ N % N) = ((2 ^ (y % 2 ^ N % N) : Nat) : Int) by push_cast; rfl, Int.add_mul_ediv_left _ _ hq, ← Int.natCast_ediv]
    generalize x % 2 ^ N / 2 ^ (y % 2 ^ N % N) = q at *
    generalize 2 ^ (N - y % 2 ^ N % N) = p at *
    have e5 : (q : Int) + -(p : Int) = ((q + (2 ^ N - p) : Nat) : Int) + ((2 ^ N : Nat) : Int) * (-1) := by omega
    rw [e5, Int.add_mul_emod_self_left, ← Int.natCast_emod, Nat.mod_eq_of_lt (by omega)]
end nat

theorem binary_bad (op n x y : Int) (h : okBits n = false ∨ op < 0 ∨ 14 < op) (w : World) :
    Calls Try.prog 3 #[.int .i64 op, .int .i64 n, .int .u64 x, .int .u64 y] w (RetT w (.bool true)) := by
  have T := Lib.hid (bin_bad op n x y h w)
  have R := Lib.hid (lawright_ok n w)
  have tt : Touch (fun _ => False) w w := Touch.refl _ _
  cases hn : okBits n with
  | false =>
    rw [hn] at R
    clear h hn
    go_enter Try.func3, Try.ntmps3
    go_wp2_with fail
    refine T.out.mono ?_
    rintro e w2 ⟨rfl, rfl⟩
    go_wp2_with fail
    refine R.out.mono ?_
    rintro e w2 ⟨rfl, rfl⟩
    go_wp2_with fail
    refine (awake_ok _).mono ?_
    rintro e w2 ⟨rfl, rfl⟩
    go_wp2_with fail
    go_ret
    exact ⟨rfl, tt⟩
  | true =>
    rw [hn] at R h
    by_cases h1 : op < 0
    · clear h hn
      go_enter Try.func3, Try.ntmps3
      go_wp2_with fail
      refine T.out.mono ?_
      rintro e w2 ⟨rfl, rfl⟩
      go_wp2_with fail
      refine R.out.mono ?_
      rintro e w2 ⟨rfl, rfl⟩
      go_wp2_with fail
      refine (awake_ok _).mono ?_
      rintro e w2 ⟨rfl, rfl⟩
      go_wp2_with fail
      go_ret
      exact ⟨rfl, tt⟩
    · have h2 : 14 < op := by
        rcases h with h | h | h
        · cases h
        · exact absurd h h1
        · exact h
      clear h hn
      go_enter Try.func3, Try.ntmps3
      go_wp2_with fail
      refine T.out.mono ?_
      rintro e w2 ⟨rfl, rfl⟩
      go_wp2_with fail
      refine R.out.mono ?_
      rintro e w2 ⟨rfl, rfl⟩
      go_wp2_with fail
      refine (awake_ok _).mono ?_
      rintro e w2 ⟨rfl, rfl⟩
      go_wp2_with fail
      go_ret
      exact ⟨rfl, tt⟩

theorem binary_agree (op : Int) (N x y : Nat) (hN : N = 32 ∨ N = 64) (o0 : 0 ≤ op) (o1 : op ≤ 14) (A : Agree op N x y) (w : World) :
    Calls Try.prog 3 #[.int .i64 op, .int .i64 N, .int .u64 x, .int .u64 y] w (RetT w (.bool true)) := by
  obtain ⟨v, t, H⟩ := A
  have B := Lib.hid (fun w => (H w).1)
  have D := Lib.hid (fun w => (H w).2)
  have R := lawright_ok (N : Int) w
  rw [ok_nat hN] at R
  have R := Lib.hid R
  have ht : True := trivial
  clear H hN
  have n1 : ¬ op < 0 := by omega
  have n2 : ¬ 14 < op := by omega
  go_enter Try.func3, Try.ntmps3
  go_wp2_with fail
  refine (B.out _).mono ?_
  rintro e w2 ⟨rfl, rfl⟩
  go_wp2_with fail
  refine R.out.mono ?_
  rintro e w2 ⟨rfl, rfl⟩
  go_wp2_with fail
  refine (D.out _).mono ?_
  rintro e w3 ⟨rfl, t3⟩
  go_wp2_with fail
  refine (awake_ok _).mono ?_
  rintro e w4 ⟨rfl, rfl⟩
  go_wp2_with fail
  go_ret
  exact ⟨rfl, t3⟩
end Go.Proofs.Ytphhgmeokmemlaa
