/- A number is its quotient times the other one and the rest: the law's walk. -/
import Derived.Test.YtphhgmeokmemlaaW8
namespace Go.Proofs.Ytphhgmeokmemlaa
open Go.RowKit
set_option linter.unusedSimpArgs false
set_option linter.unusedVariables false

section laws
variable (n a k : Int) (hb : okBits n = true) (h0 : 0 ≤ a) (h1 : a < 18446744073709551616) (k0 : 0 ≤ k) (k1 : k < 18446744073709551616) (w : World)
include hb h0 h1 k0 k1
theorem b_divs (hk : cut n k ≠ 0) (hq : -9223372036854775808 ≤ (sgn n a).tdiv (sgn n k) ∧ (sgn n a).tdiv (sgn n k) ≤ 9223372036854775807) (hv : ¬ (sgn n k = -1 ∧ cut n a = half n)) :
    Calls Try.prog 8 #[.int .i64 3, .int .i64 n, .int .u64 a, .int .u64 k] w (Ret w (.tuple #[.int .u64 ((sgn n a).tdiv (sgn n k) % md n), .int .i64 0, .int .i64 0])) := by
  have hn := bits_of hb
  have c := cut_range (n := n) k0 k1
  have d := cut_range (n := n) h0 h1
  have hz := sgn_zero hn k0 k1 hk
  rw [← sgn_cut hn a, ← sgn_cut hn k] at hq ⊢
  have r := wrap_range ((sgn n (cut n a)).tdiv (sgn n (cut n k)))
  have dv := divides_signed n (cut n a) (cut n k) hn hk c.1 c.2 w
  rw [sgn_cut hn k, if_neg hv] at dv
  have := bin_arith 3 n a k hb h0 h1 k0 k1 w (by decide) (by decide) _ r.1 r.2 dv (arith_divs n _ _ w hn d.1 d.2 c.1 c.2 hz hq)
  rw [cut_wrap hn] at this
  exact this
theorem b_over (hk : cut n k ≠ 0) (hv : sgn n k = -1 ∧ cut n a = half n) :
    Calls Try.prog 8 #[.int .i64 3, .int .i64 n, .int .u64 a, .int .u64 k] w (Ret w (.tuple #[.int .u64 0, .int .i64 3, .int .i64 0])) := by
  have hn := bits_of hb
  have c := cut_range (n := n) k0 k1
  have dv := divides_signed n (cut n a) (cut n k) hn hk c.1 c.2 w
  rw [sgn_cut hn k, if_pos hv] at dv
  exact bin_trap 3 n a k hb h0 h1 k0 k1 w (by decide) (by decide) 3 (by decide) dv
theorem b_rems (hk : cut n k ≠ 0) :
    Calls Try.prog 8 #[.int .i64 5, .int .i64 n, .int .u64 a, .int .u64 k] w (Ret w (.tuple #[.int .u64 ((sgn n a).tmod (sgn n k) % md n), .int .i64 0, .int .i64 0])) := by
  have hn := bits_of hb
  have c := cut_range (n := n) k0 k1
  have d := cut_range (n := n) h0 h1
  have hz := sgn_zero hn k0 k1 hk
  rw [← sgn_cut hn a, ← sgn_cut hn k]
  have r := wrap_range ((sgn n (cut n a)).tmod (sgn n (cut n k)))
  have := bin_arith 5 n a k hb h0 h1 k0 k1 w (by decide) (by decide) _ r.1 r.2 (divides_plain _ _ _ _ (by decide) (by decide) hk w) (arith_rems n _ _ w hn d.1 d.2 c.1 c.2 hz)
  rw [cut_wrap hn] at this
  exact this
end laws

/-- A quotient fits, unless the least number is divided by -1. -/
theorem tdiv_fits {n a k : Int} (hb : okBits n = true) (h0 : 0 ≤ a) (h1 : a < 18446744073709551616) (hk : sgn n k ≠ 0) (hv : ¬ (sgn n k = -1 ∧ cut n a = half n)) :
    -9223372036854775808 ≤ (sgn n a).tdiv (sgn n k) ∧ (sgn n a).tdiv (sgn n k) ≤ 9223372036854775807 := by
  have hn := bits_of hb
  have r := sgn_range hn a
  by_cases hm : sgn n k = -1
  · have ha : cut n a ≠ half n := fun e => hv ⟨hm, e⟩
    rw [hm, show (sgn n a).tdiv (-1) = -(sgn n a) by simp]
    rcases hn with rfl | rfl
    · simp only [sgn, if_true, wrap32] at r ⊢; omega
    · simp only [sgn, cut, half, show (64 : Int) ≠ 32 by decide, if_false, wrap64] at r ha ⊢; omega
  · have hle : ((sgn n a).tdiv (sgn n k)).natAbs ≤ (sgn n a).natAbs := by
      rw [Int.natAbs_tdiv]; exact Nat.div_le_self _ _
    by_cases ho : sgn n k = 1
    · rw [ho, Int.tdiv_one]; omega
    · have h2 : 2 ≤ (sgn n k).natAbs := by omega
      have : ((sgn n a).tdiv (sgn n k)).natAbs ≤ (sgn n a).natAbs / 2 := by
        rw [Int.natAbs_tdiv]; exact Nat.div_le_div_left h2 (by decide)
      omega

/-- What is put together is the word. -/
theorem together {n a b q r X Y : Int} (hn : n = 32 ∨ n = 64) (h0 : 0 ≤ a) (h1 : a < 18446744073709551616) (g0 : 0 ≤ b) (g1 : b < 18446744073709551616) (h : q * Y + r = X) (hX : X % md n = a % md n) (hY : Y % md n = b % md n) :
    cut n (IntKind.u64.wrap (cut n (cut n (IntKind.u64.wrap (cut n (q % md n) * cut n b))) + cut n (r % md n))) = cut n a := by
  rw [cut_wrap hn (cut n (q % md n) * cut n b), cut_modmod hn, cut_modmod hn, cut_modmod hn, cut_wrap hn, cut_mod hn g0 g1, cut_mod hn h0 h1]
  exact divlaw (md n) q r X Y a b h hX hY

set_option maxHeartbeats 1000000 in
theorem dl_zero_true (n a b : Int) (hb : okBits n = true) (h0 : 0 ≤ a) (h1 : a < 18446744073709551616) (g0 : 0 ≤ b) (g1 : b < 18446744073709551616) (hz : cut n b = 0) (w : World) :
    Calls Try.prog 4 #[.int .i64 n, .int .u64 a, .int .u64 b, .bool true] w (Ret w (.bool true)) := by
  have R := Lib.hid (lawright_ok n w)
  rw [hb] at R
  have T1 := Lib.hid (b_zero n a b hb h0 h1 g0 g1 w 3 (by decide) (by decide) hz)
  have T2 := Lib.hid (b_zero n a b hb h0 h1 g0 g1 w 5 (by decide) (by decide) hz)
  have C := Lib.hid (cut_ok n b g0 g1 w)
  rw [hz] at C
  clear hb hz
  go_enter Try.func4, Try.ntmps4
  go_wp2_with fail
  refine R.out.mono ?_
  rintro e w2 ⟨rfl, rfl⟩
  go_wp2_with fail
  refine T1.out.mono ?_
  rintro e w2 ⟨rfl, rfl⟩
  go_wp2_with fail
  refine T2.out.mono ?_
  rintro e w2 ⟨rfl, rfl⟩
  go_wp2_with fail
  refine C.out.mono ?_
  rintro e w2 ⟨rfl, rfl⟩
  go_wp2_with fail
  refine (awake_ok _).mono ?_
  rintro e w2 ⟨rfl, rfl⟩
  go_wp2_with fail
  go_ret
  exact ⟨rfl, rfl⟩

set_option maxHeartbeats 1000000 in
theorem dl_zero_false (n a b : Int) (hb : okBits n = true) (h0 : 0 ≤ a) (h1 : a < 18446744073709551616) (g0 : 0 ≤ b) (g1 : b < 18446744073709551616) (hz : cut n b = 0) (w : World) :
    Calls Try.prog 4 #[.int .i64 n, .int .u64 a, .int .u64 b, .bool false] w (Ret w (.bool true)) := by
  have R := Lib.hid (lawright_ok n w)
  rw [hb] at R
  have T1 := Lib.hid (b_zero n a b hb h0 h1 g0 g1 w 4 (by decide) (by decide) hz)
  have T2 := Lib.hid (b_zero n a b hb h0 h1 g0 g1 w 6 (by decide) (by decide) hz)
  have C := Lib.hid (cut_ok n b g0 g1 w)
  rw [hz] at C
  clear hb hz
  go_enter Try.func4, Try.ntmps4
  go_wp2_with fail
  refine R.out.mono ?_
  rintro e w2 ⟨rfl, rfl⟩
  go_wp2_with fail
  refine T1.out.mono ?_
  rintro e w2 ⟨rfl, rfl⟩
  go_wp2_with fail
  refine T2.out.mono ?_
  rintro e w2 ⟨rfl, rfl⟩
  go_wp2_with fail
  refine C.out.mono ?_
  rintro e w2 ⟨rfl, rfl⟩
  go_wp2_with fail
  refine (awake_ok _).mono ?_
  rintro e w2 ⟨rfl, rfl⟩
  go_wp2_with fail
  go_ret
  exact ⟨rfl, rfl⟩

set_option maxHeartbeats 1000000 in
theorem dl_over (n a b : Int) (hb : okBits n = true) (h0 : 0 ≤ a) (h1 : a < 18446744073709551616) (g0 : 0 ≤ b) (g1 : b < 18446744073709551616) (hz : cut n b ≠ 0) (hv : sgn n b = -1 ∧ cut n a = half n) (w : World) :
    Calls Try.prog 4 #[.int .i64 n, .int .u64 a, .int .u64 b, .bool true] w (Ret w (.bool true)) := by
  have R := Lib.hid (lawright_ok n w)
  rw [hb] at R
  have T1 := Lib.hid (b_over n a b hb h0 h1 g0 g1 w hz hv)
  have T2p := b_rems n a b hb h0 h1 g0 g1 w hz
  rw [hv.1, show (sgn n a).tmod (-1) = 0 by simp, Int.zero_emod] at T2p
  have T2 := Lib.hid T2p
  have C := Lib.hid (sign_ok n b g0 g1 w)
  rw [hv.1] at C
  clear hb hz hv T2p
  go_enter Try.func4, Try.ntmps4
  go_wp2_with fail
  refine R.out.mono ?_
  rintro e w2 ⟨rfl, rfl⟩
  go_wp2_with fail
  refine T1.out.mono ?_
  rintro e w2 ⟨rfl, rfl⟩
  go_wp2_with fail
  refine T2.out.mono ?_
  rintro e w2 ⟨rfl, rfl⟩
  go_wp2_with fail
  refine C.out.mono ?_
  rintro e w2 ⟨rfl, rfl⟩
  go_wp2_with fail
  refine (awake_ok _).mono ?_
  rintro e w2 ⟨rfl, rfl⟩
  go_wp2_with fail
  go_ret
  exact ⟨rfl, rfl⟩

set_option maxHeartbeats 1000000 in
theorem dl_fine_true (n a b : Int) (hb : okBits n = true) (h0 : 0 ≤ a) (h1 : a < 18446744073709551616) (g0 : 0 ≤ b) (g1 : b < 18446744073709551616) (hz : cut n b ≠ 0) (hv : ¬ (sgn n b = -1 ∧ cut n a = half n)) (w : World) :
    Calls Try.prog 4 #[.int .i64 n, .int .u64 a, .int .u64 b, .bool true] w (Ret w (.bool true)) := by
  have hn := bits_of hb
  have R := Lib.hid (lawright_ok n w)
  rw [hb] at R
  have T1 := b_divs n a b hb h0 h1 g0 g1 w hz (tdiv_fits hb h0 h1 (by rw [← sgn_cut hn b]; exact sgn_zero hn g0 g1 hz) hv) hv
  have T2 := b_rems n a b hb h0 h1 g0 g1 w hz
  have FE := together (q := (sgn n a).tdiv (sgn n b)) (r := (sgn n a).tmod (sgn n b)) hn h0 h1 g0 g1 (by rw [Int.mul_comm]; exact Int.mul_tdiv_add_tmod _ _) (sgn_mod hn a) (sgn_mod hn b)
  have rq := mod_range hn ((sgn n a).tdiv (sgn n b))
  have rr := mod_range hn ((sgn n a).tmod (sgn n b))
  generalize ((sgn n a).tdiv (sgn n b)) % md n = Q at *
  generalize ((sgn n a).tmod (sgn n b)) % md n = E at *
  have T3 := b_mul n Q b hb rq.1 rq.2 g0 g1 w
  have rp := wrap_range (cut n Q * cut n b)
  have rp2 := cut_range (n := n) rp.1 rp.2
  generalize cut n (IntKind.u64.wrap (cut n Q * cut n b)) = P at *
  have T4 := b_add n P E hb rp2.1 rp2.2 rr.1 rr.2 w
  rw [FE] at T4
  have C := cut_ok n a h0 h1 w
  clear hv
  generalize cut n a = A at *
  replace T1 := Lib.hid T1
  replace T2 := Lib.hid T2
  replace T3 := Lib.hid T3
  replace T4 := Lib.hid T4
  replace C := Lib.hid C
  clear hb hz FE rp rp2 rq rr
  go_enter Try.func4, Try.ntmps4
  go_wp2_with fail
  refine R.out.mono ?_
  rintro e w2 ⟨rfl, rfl⟩
  go_wp2_with fail
  refine T1.out.mono ?_
  rintro e w2 ⟨rfl, rfl⟩
  go_wp2_with fail
  refine T2.out.mono ?_
  rintro e w2 ⟨rfl, rfl⟩
  go_wp2_with fail
  refine T3.out.mono ?_
  rintro e w2 ⟨rfl, rfl⟩
  go_wp2_with fail
  refine T4.out.mono ?_
  rintro e w2 ⟨rfl, rfl⟩
  go_wp2_with fail
  refine C.out.mono ?_
  rintro e w2 ⟨rfl, rfl⟩
  go_wp2_with fail
  refine (awake_ok _).mono ?_
  rintro e w2 ⟨rfl, rfl⟩
  go_wp2_with fail
  go_ret
  exact ⟨rfl, rfl⟩

set_option maxHeartbeats 1000000 in
theorem dl_fine_false (n a b : Int) (hb : okBits n = true) (h0 : 0 ≤ a) (h1 : a < 18446744073709551616) (g0 : 0 ≤ b) (g1 : b < 18446744073709551616) (hz : cut n b ≠ 0) (w : World) :
    Calls Try.prog 4 #[.int .i64 n, .int .u64 a, .int .u64 b, .bool false] w (Ret w (.bool true)) := by
  have hn := bits_of hb
  have R := Lib.hid (lawright_ok n w)
  rw [hb] at R
  have T1 := b_divu n a b hb h0 h1 g0 g1 w hz
  have T2 := b_remu n a b hb h0 h1 g0 g1 w hz
  have cc := cut_range (n := n) g0 g1
  have dd := cut_range (n := n) h0 h1
  have er := div_range dd.1 dd.2 (show 1 ≤ cut n b by omega)
  have e0 := Int.emod_nonneg (cut n a) hz
  have e1 := Int.emod_lt_of_pos (cut n a) (show 0 < cut n b by omega)
  rw [cut_mod hn er.1 er.2] at T1
  rw [cut_mod hn e0 (by omega)] at T2
  have FE := together (q := cut n a / cut n b) (r := cut n a % cut n b) (X := cut n a) (Y := cut n b) hn h0 h1 g0 g1 (by rw [Int.mul_comm]; exact Int.mul_ediv_add_emod _ _) (by rw [cut_mod hn h0 h1, Int.emod_emod]) (by rw [cut_mod hn g0 g1, Int.emod_emod])
  have rq := mod_range hn (cut n a / cut n b)
  have rr := mod_range hn (cut n a % cut n b)
  generalize (cut n a / cut n b) % md n = Q at *
  generalize (cut n a % cut n b) % md n = E at *
  have T3 := b_mul n Q b hb rq.1 rq.2 g0 g1 w
  have rp := wrap_range (cut n Q * cut n b)
  have rp2 := cut_range (n := n) rp.1 rp.2
  generalize cut n (IntKind.u64.wrap (cut n Q * cut n b)) = P at *
  have T4 := b_add n P E hb rp2.1 rp2.2 rr.1 rr.2 w
  rw [FE] at T4
  have C := cut_ok n a h0 h1 w
  generalize cut n a = A at *
  replace T1 := Lib.hid T1
  replace T2 := Lib.hid T2
  replace T3 := Lib.hid T3
  replace T4 := Lib.hid T4
  replace C := Lib.hid C
  clear hb hz FE rp rp2 rq rr cc dd er e0 e1
  go_enter Try.func4, Try.ntmps4
  go_wp2_with fail
  refine R.out.mono ?_
  rintro e w2 ⟨rfl, rfl⟩
  go_wp2_with fail
  refine T1.out.mono ?_
  rintro e w2 ⟨rfl, rfl⟩
  go_wp2_with fail
  refine T2.out.mono ?_
  rintro e w2 ⟨rfl, rfl⟩
  go_wp2_with fail
  refine T3.out.mono ?_
  rintro e w2 ⟨rfl, rfl⟩
  go_wp2_with fail
  refine T4.out.mono ?_
  rintro e w2 ⟨rfl, rfl⟩
  go_wp2_with fail
  refine C.out.mono ?_
  rintro e w2 ⟨rfl, rfl⟩
  go_wp2_with fail
  refine (awake_ok _).mono ?_
  rintro e w2 ⟨rfl, rfl⟩
  go_wp2_with fail
  go_ret
  exact ⟨rfl, rfl⟩

theorem dl_bad (n a b : Int) (s : Bool) (hn : okBits n = false) (w : World) :
    Calls Try.prog 4 #[.int .i64 n, .int .u64 a, .int .u64 b, .bool s] w (Ret w (.bool true)) := by
  have R := Lib.hid (lawright_ok n w)
  rw [hn] at R
  clear hn
  go_enter Try.func4, Try.ntmps4
  go_wp2_with fail
  refine R.out.mono ?_
  rintro e w2 ⟨rfl, rfl⟩
  go_wp2_with fail
  refine (awake_ok _).mono ?_
  rintro e w2 ⟨rfl, rfl⟩
  go_wp2_with fail
  go_ret
  exact ⟨rfl, rfl⟩

theorem divides_law (n a b : Int) (s : Bool) (h0 : 0 ≤ a) (h1 : a < 18446744073709551616) (g0 : 0 ≤ b) (g1 : b < 18446744073709551616) (w : World) :
    Calls Try.prog 4 #[.int .i64 n, .int .u64 a, .int .u64 b, .bool s] w (Ret w (.bool true)) := by
  cases hb : okBits n with
  | false => exact dl_bad n a b s hb w
  | true =>
    by_cases hz : cut n b = 0
    · cases s with
      | true => exact dl_zero_true n a b hb h0 h1 g0 g1 hz w
      | false => exact dl_zero_false n a b hb h0 h1 g0 g1 hz w
    · cases s with
      | true =>
        by_cases hv : sgn n b = -1 ∧ cut n a = half n
        · exact dl_over n a b hb h0 h1 g0 g1 hz hv w
        · exact dl_fine_true n a b hb h0 h1 g0 g1 hz hv w
      | false => exact dl_fine_false n a b hb h0 h1 g0 g1 hz w
end Go.Proofs.Ytphhgmeokmemlaa
