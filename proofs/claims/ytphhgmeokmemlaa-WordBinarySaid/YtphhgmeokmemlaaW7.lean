/- Shifts are multiplications and divisions. -/
import Derived.Test.YtphhgmeokmemlaaW6
namespace Go.Proofs.Ytphhgmeokmemlaa
open Go.RowKit
set_option linter.unusedSimpArgs false
set_option linter.unusedVariables false

theorem pow_range (k : Nat) (h : k < 64) : 1 ≤ (2 : Int) ^ k ∧ (2 : Int) ^ k < 18446744073709551616 := by
  have h1 : (1 : Nat) ≤ 2 ^ k := Nat.one_le_two_pow
  have h2 : (2 : Nat) ^ k < 2 ^ 64 := Nat.pow_lt_pow_right (by decide) h
  have e : ((2 ^ k : Nat) : Int) = (2 : Int) ^ k := by simp
  rw [← e]
  omega
theorem pow_range32 (k : Nat) (h : k < 32) : 1 ≤ (2 : Int) ^ k ∧ (2 : Int) ^ k < 4294967296 := by
  have h1 : (1 : Nat) ≤ 2 ^ k := Nat.one_le_two_pow
  have h2 : (2 : Nat) ^ k < 2 ^ 32 := Nat.pow_lt_pow_right (by decide) h
  have e : ((2 ^ k : Nat) : Int) = (2 : Int) ^ k := by simp
  rw [← e]
  omega

theorem cutmul (n : Int) (hn : n = 32 ∨ n = 64) (a p : Int) : cut n (IntKind.u64.wrap (cut n a * p)) = cut n (IntKind.u64.wrap (a * p)) := by
  rcases hn with rfl | rfl
  · simp only [cut, if_true, IntKind.wrap_u64]
    rw [Int.emod_emod_of_dvd _ (by decide : (4294967296 : Int) ∣ 18446744073709551616), Int.emod_emod_of_dvd _ (by decide : (4294967296 : Int) ∣ 18446744073709551616), Int.mul_emod, Int.emod_emod, ← Int.mul_emod]
  · simp only [cut, show (64 : Int) ≠ 32 by decide, if_false]

theorem div_range {x y : Int} (h0 : 0 ≤ x) (h1 : x < 18446744073709551616) (h : 1 ≤ y) : 0 ≤ x / y ∧ x / y < 18446744073709551616 := by
  have a := Int.ediv_nonneg h0 (show 0 ≤ y by omega)
  have b := Int.ediv_le_self y h0
  omega
theorem wrap_range (x : Int) : 0 ≤ IntKind.u64.wrap x ∧ IntKind.u64.wrap x < 18446744073709551616 := by
  rw [IntKind.wrap_u64]; omega

/-- The amount. -/
def amt (n k : Int) : Nat := (k % n).toNat
theorem amt_cut (n k : Int) (hn : n = 32 ∨ n = 64) : (cut n k % n).toNat = amt n k := by
  unfold amt
  rcases hn with rfl | rfl
  · simp only [cut, if_true]; congr 1; omega
  · simp only [cut, show (64 : Int) ≠ 32 by decide, if_false]
theorem amt_lt (n k : Int) (hn : n = 32 ∨ n = 64) (hk : 0 ≤ k) : amt n k < n.toNat := by
  unfold amt
  rcases hn with rfl | rfl <;> omega
theorem cut_pow (n k : Int) (hn : n = 32 ∨ n = 64) (hk : 0 ≤ k) : cut n (2 ^ amt n k) = 2 ^ amt n k := by
  have h := amt_lt n k hn hk
  rcases hn with rfl | rfl
  · have := pow_range32 (amt 32 k) (by simpa using h)
    simp only [cut, if_true]; omega
  · simp only [cut, show (64 : Int) ≠ 32 by decide, if_false]

section laws
variable (n a k : Int) (hb : okBits n = true) (h0 : 0 ≤ a) (h1 : a < 18446744073709551616) (k0 : 0 ≤ k) (k1 : k < 18446744073709551616) (w : World)
include hb h0 h1 k0 k1
theorem b_shl : Calls Try.prog 8 #[.int .i64 10, .int .i64 n, .int .u64 a, .int .u64 k] w (Ret w (.tuple #[.int .u64 (cut n (IntKind.u64.wrap (a * 2 ^ amt n k))), .int .i64 0, .int .i64 0])) := by
  have hn := bits_of hb
  have c := cut_range (n := n) k0 k1
  have r := wrap_range (cut n a * 2 ^ (cut n k % n).toNat)
  have := bin_bits 10 n a k hb h0 h1 k0 k1 w (by decide) (by decide) _ r.1 r.2 (bit_shl n (cut n a) (cut n k) w hn c.1 c.2)
  rw [amt_cut n k hn, cutmul n hn] at this
  exact this
theorem b_shr : Calls Try.prog 8 #[.int .i64 12, .int .i64 n, .int .u64 a, .int .u64 k] w (Ret w (.tuple #[.int .u64 (cut n (cut n a / 2 ^ amt n k)), .int .i64 0, .int .i64 0])) := by
  have hn := bits_of hb
  have c := cut_range (n := n) k0 k1
  have d := cut_range (n := n) h0 h1
  have hl := amt_lt n k hn k0
  have hp := pow_range (amt n k) (by rcases hn with rfl | rfl <;> omega)
  have r := div_range d.1 d.2 hp.1
  have := bin_bits 12 n a k hb h0 h1 k0 k1 w (by decide) (by decide) (cut n a / 2 ^ amt n k) r.1 r.2 (by have := bit_shru n (cut n a) (cut n k) w hn d.1 d.2 c.1 c.2; rw [amt_cut n k hn] at this; exact this)
  exact this
theorem b_mul : Calls Try.prog 8 #[.int .i64 2, .int .i64 n, .int .u64 a, .int .u64 k] w (Ret w (.tuple #[.int .u64 (cut n (IntKind.u64.wrap (cut n a * cut n k))), .int .i64 0, .int .i64 0])) := by
  have r := wrap_range (cut n a * cut n k)
  exact bin_arith 2 n a k hb h0 h1 k0 k1 w (by decide) (by decide) _ r.1 r.2 (divides_no _ _ _ _ (Or.inl (by decide)) w) (arith_mul n _ _ w)
theorem b_add : Calls Try.prog 8 #[.int .i64 0, .int .i64 n, .int .u64 a, .int .u64 k] w (Ret w (.tuple #[.int .u64 (cut n (IntKind.u64.wrap (cut n a + cut n k))), .int .i64 0, .int .i64 0])) := by
  have r := wrap_range (cut n a + cut n k)
  exact bin_arith 0 n a k hb h0 h1 k0 k1 w (by decide) (by decide) _ r.1 r.2 (divides_no _ _ _ _ (Or.inl (by decide)) w) (arith_add n _ _ w)
theorem b_divu (hk : cut n k ≠ 0) : Calls Try.prog 8 #[.int .i64 4, .int .i64 n, .int .u64 a, .int .u64 k] w (Ret w (.tuple #[.int .u64 (cut n (cut n a / cut n k)), .int .i64 0, .int .i64 0])) := by
  have c := cut_range (n := n) k0 k1
  have d := cut_range (n := n) h0 h1
  have r := div_range d.1 d.2 (show 1 ≤ cut n k by omega)
  exact bin_arith 4 n a k hb h0 h1 k0 k1 w (by decide) (by decide) _ r.1 r.2 (divides_plain _ _ _ _ (by decide) (by decide) hk w) (arith_divu n _ _ w d.1 d.2 (by omega) c.2)
theorem b_remu (hk : cut n k ≠ 0) : Calls Try.prog 8 #[.int .i64 6, .int .i64 n, .int .u64 a, .int .u64 k] w (Ret w (.tuple #[.int .u64 (cut n (cut n a % cut n k)), .int .i64 0, .int .i64 0])) := by
  have c := cut_range (n := n) k0 k1
  have d := cut_range (n := n) h0 h1
  have r0 := Int.emod_nonneg (cut n a) hk
  have r1 := Int.emod_lt_of_pos (cut n a) (show 0 < cut n k by omega)
  exact bin_arith 6 n a k hb h0 h1 k0 k1 w (by decide) (by decide) _ r0 (by omega) (divides_plain _ _ _ _ (by decide) (by decide) hk w) (arith_remu n _ _ w d.1 d.2 (by omega) c.2)
theorem b_zero (op : Int) (o0 : 3 ≤ op) (o1 : op ≤ 6) (hk : cut n k = 0) : Calls Try.prog 8 #[.int .i64 op, .int .i64 n, .int .u64 a, .int .u64 k] w (Ret w (.tuple #[.int .u64 0, .int .i64 2, .int .i64 0])) := by
  refine bin_trap op n a k hb h0 h1 k0 k1 w (by omega) (by omega) 2 (by decide) ?_
  rw [hk]
  exact divides_zero op n _ o0 o1 w
end laws

set_option maxHeartbeats 1000000 in
theorem shifts_law (n a k : Int) (h0 : 0 ≤ a) (h1 : a < 18446744073709551616) (k0 : 0 ≤ k) (k1 : k < 18446744073709551616) (w : World) :
    Calls Try.prog 5 #[.int .i64 n, .int .u64 a, .int .u64 k] w (Ret w (.bool true)) := by
  cases hb : okBits n with
  | false =>
    have R := Lib.hid (lawright_ok n w)
    rw [hb] at R
    clear hb
    go_enter Try.func5, Try.ntmps5
    go_wp2_with fail
    refine R.out.mono ?_
    rintro e w2 ⟨rfl, rfl⟩
    go_wp2_with fail
    refine (awake_ok _).mono ?_
    rintro e w2 ⟨rfl, rfl⟩
    go_wp2_with fail
    go_ret
    exact ⟨rfl, rfl⟩
  | true =>
    have hn := bits_of hb
    have hl := amt_lt n k hn k0
    have hp := pow_range (amt n k) (by rcases hn with rfl | rfl <;> omega)
    have hc := cut_pow n k hn k0
    have R := Lib.hid (lawright_ok n w)
    rw [hb] at R
    have T1 := Lib.hid (b_shl n a k hb h0 h1 k0 k1 w)
    have T2p := b_mul n a (2 ^ amt n k) hb h0 h1 (by omega) hp.2 w
    rw [hc, cutmul n hn] at T2p
    have T2 := Lib.hid T2p
    clear T2p
    have T3 := Lib.hid (b_shr n a k hb h0 h1 k0 k1 w)
    have T4p := b_divu n a (2 ^ amt n k) hb h0 h1 (by omega) hp.2 w (by rw [hc]; omega)
    rw [hc] at T4p
    have T4 := Lib.hid T4p
    clear T4p
    generalize hu : cut n (IntKind.u64.wrap (a * 2 ^ amt n k)) = u at *
    generalize hv : cut n (cut n a / 2 ^ amt n k) = v at *
    clear hu hv hc
    have c1 : IntKind.u64.wrap n = n := by rw [IntKind.wrap_u64]; rcases hn with rfl | rfl <;> omega
    have c2 : (k % n).toNat = amt n k := rfl
    have c3 : IntKind.u64.wrap (k % n) = k % n := by rw [IntKind.wrap_u64]; rcases hn with rfl | rfl <;> omega
    have c4 : 0 ≤ k % n := by rcases hn with rfl | rfl <;> omega
    have c5 : k % n < 64 := by rcases hn with rfl | rfl <;> omega
    have c6 : IntKind.u64.wrap (2 ^ amt n k) = 2 ^ amt n k := IntWalk.u64_in _ (by omega)
    clear hb
    generalize hA : amt n k = m at *
    rcases hn with rfl | rfl
    all_goals
      clear hl c1
      go_enter Try.func5, Try.ntmps5
      go_wp2_with fail
      refine R.out.mono ?_
      rintro e w2 ⟨rfl, rfl⟩
      go_wp2_with fail
      refine T1.out.mono ?_
      rintro e w2 ⟨rfl, rfl⟩
      go_wp2_with fail
      refine T2.out.mono ?_
      rintro e w2 ⟨rfl, rfl⟩
      go_wp2_with fail
      refine T3.out.mono ?_
      rintro e w2 ⟨rfl, rfl⟩
      go_wp2_with fail
      refine T4.out.mono ?_
      rintro e w2 ⟨rfl, rfl⟩
      go_wp2_with fail
      refine (awake_ok _).mono ?_
      rintro e w2 ⟨rfl, rfl⟩
      go_wp2_with fail
      go_ret
      exact ⟨rfl, rfl⟩
end Go.Proofs.Ytphhgmeokmemlaa
