/- Of two words one holds: less, the same, greater: the walk. -/
import Derived.Test.YtphhgmeokmemlaaW5
namespace Go.Proofs.Ytphhgmeokmemlaa
open Go.RowKit
set_option linter.unusedSimpArgs false
set_option linter.unusedVariables false

theorem bits_of {n : Int} (h : okBits n = true) : n = 32 ∨ n = 64 := by
  simp only [okBits, Bool.or_eq_true, beq_iff_eq] at h; exact h

theorem cut_small {n a : Int} (h : n = 32) : 0 ≤ cut n a ∧ cut n a < 4294967296 := by
  unfold cut; rw [if_pos h]; omega

theorem sgn_inj {n a b : Int} (hn : okBits n = true) (h0 : 0 ≤ a) (h1 : a < 18446744073709551616) (g0 : 0 ≤ b) (g1 : b < 18446744073709551616)
    (h : sgn n (cut n a) = sgn n (cut n b)) : cut n a = cut n b := by
  rcases bits_of hn with rfl | rfl
  · have h2 := cut_small (n := 32) (a := a) rfl
    have h3 := cut_small (n := 32) (a := b) rfl
    simp only [sgn, if_pos, wrap32] at h
    omega
  · have h2 := cut_range (n := 64) h0 h1
    have h3 := cut_range (n := 64) g0 g1
    simp only [sgn, show (64 : Int) ≠ 32 by decide, if_neg, not_false_eq_true, wrap64] at h
    omega

theorem tri (s : Bool) {n a b : Int} (hn : okBits n = true) (h0 : 0 ≤ a) (h1 : a < 18446744073709551616) (g0 : 0 ≤ b) (g1 : b < 18446744073709551616) :
    (lessW s n (cut n a) (cut n b) = true ∧ lessW s n (cut n b) (cut n a) = false ∧ (cut n a == cut n b) = false) ∨
    (lessW s n (cut n a) (cut n b) = false ∧ lessW s n (cut n b) (cut n a) = true ∧ (cut n a == cut n b) = false) ∨
    (lessW s n (cut n a) (cut n b) = false ∧ lessW s n (cut n b) (cut n a) = false ∧ (cut n a == cut n b) = true) := by
  by_cases he : cut n a = cut n b
  · refine Or.inr (Or.inr ?_)
    rw [he]
    cases s <;> simp [lessW]
  · have hne : (cut n a == cut n b) = false := by simp [he]
    rw [hne]
    cases s with
    | false =>
      simp only [lessW, Bool.false_eq_true, if_false, decide_eq_true_eq, decide_eq_false_iff_not, and_true, and_false, or_false]
      omega
    | true =>
      have hs : sgn n (cut n a) ≠ sgn n (cut n b) := fun h => he (sgn_inj hn h0 h1 g0 g1 h)
      simp only [lessW, if_true, decide_eq_true_eq, decide_eq_false_iff_not, and_true, and_false, or_false]
      generalize sgn n (cut n a) = u at *
      generalize sgn n (cut n b) = v at *
      omega

set_option maxHeartbeats 1000000 in
theorem orders_true_0 (n a b : Int) (hn : okBits n = true) (h0 : 0 ≤ a) (h1 : a < 18446744073709551616) (g0 : 0 ≤ b) (g1 : b < 18446744073709551616) (w : World)
    (hl : lessW true n (cut n a) (cut n b) = true) (hg : lessW true n (cut n b) (cut n a) = false) (he : (cut n a == cut n b) = false) :
    Calls Try.prog 7 #[.int .i64 n, .int .u64 a, .int .u64 b, .bool true] w (Ret w (.bool true)) := by
  have R := Lib.hid (lawright_ok n w)
  rw [hn] at R
  have T1 := Lib.hid (test_2 n a b hn h0 h1 g0 g1 w)
  have T2 := Lib.hid (test_4 n a b hn h0 h1 g0 g1 w)
  have T3 := Lib.hid (test_6 n a b hn h0 h1 g0 g1 w)
  have T4 := Lib.hid (test_8 n a b hn h0 h1 g0 g1 w)
  have T5 := Lib.hid (test_0 n a b hn h0 h1 g0 g1 w)
  have T6 := Lib.hid (test_1 n a b hn h0 h1 g0 g1 w)
  have T7 := Lib.hid (test_2 n b a hn g0 g1 h0 h1 w)
  have he2 : (cut n a != cut n b) = true := by simp only [bne, he]; rfl
  rw [hl] at T1 T4
  rw [hg] at T2 T3 T7
  rw [he] at T5
  rw [he2] at T6
  simp only [one, Bool.not_true, Bool.not_false, if_true, Bool.false_eq_true, if_false] at T1 T2 T3 T4 T5 T6 T7
  clear hl hg he he2 hn h0 h1 g0 g1
  go_enter Try.func7, Try.ntmps7
  go_wp2_with fail
  refine R.out.mono ?_
  rintro e w2 ⟨rfl, rfl⟩
  go_wp2_with fail
  refine T1.out.mono ?_
  rintro e w2 ⟨rfl, rfl⟩
  go_wp2_with fail
  refine T2.out.mono ?_
  rintro e w2 ⟨rfl, rfl⟩
  go_wp2_with fail
  refine T3.out.mono ?_
  rintro e w2 ⟨rfl, rfl⟩
  go_wp2_with fail
  refine T4.out.mono ?_
  rintro e w2 ⟨rfl, rfl⟩
  go_wp2_with fail
  refine T5.out.mono ?_
  rintro e w2 ⟨rfl, rfl⟩
  go_wp2_with fail
  refine T6.out.mono ?_
  rintro e w2 ⟨rfl, rfl⟩
  go_wp2_with fail
  refine T7.out.mono ?_
  rintro e w2 ⟨rfl, rfl⟩
  go_wp2_with fail
  refine (awake_ok _).mono ?_
  rintro e w2 ⟨rfl, rfl⟩
  go_wp2_with fail
  go_ret
  exact ⟨rfl, rfl⟩

set_option maxHeartbeats 1000000 in
theorem orders_true_1 (n a b : Int) (hn : okBits n = true) (h0 : 0 ≤ a) (h1 : a < 18446744073709551616) (g0 : 0 ≤ b) (g1 : b < 18446744073709551616) (w : World)
    (hl : lessW true n (cut n a) (cut n b) = false) (hg : lessW true n (cut n b) (cut n a) = true) (he : (cut n a == cut n b) = false) :
    Calls Try.prog 7 #[.int .i64 n, .int .u64 a, .int .u64 b, .bool true] w (Ret w (.bool true)) := by
  have R := Lib.hid (lawright_ok n w)
  rw [hn] at R
  have T1 := Lib.hid (test_2 n a b hn h0 h1 g0 g1 w)
  have T2 := Lib.hid (test_4 n a b hn h0 h1 g0 g1 w)
  have T3 := Lib.hid (test_6 n a b hn h0 h1 g0 g1 w)
  have T4 := Lib.hid (test_8 n a b hn h0 h1 g0 g1 w)
  have T5 := Lib.hid (test_0 n a b hn h0 h1 g0 g1 w)
  have T6 := Lib.hid (test_1 n a b hn h0 h1 g0 g1 w)
  have T7 := Lib.hid (test_2 n b a hn g0 g1 h0 h1 w)
  have he2 : (cut n a != cut n b) = true := by simp only [bne, he]; rfl
  rw [hl] at T1 T4
  rw [hg] at T2 T3 T7
  rw [he] at T5
  rw [he2] at T6
  simp only [one, Bool.not_true, Bool.not_false, if_true, Bool.false_eq_true, if_false] at T1 T2 T3 T4 T5 T6 T7
  clear hl hg he he2 hn h0 h1 g0 g1
  go_enter Try.func7, Try.ntmps7
  go_wp2_with fail
  refine R.out.mono ?_
  rintro e w2 ⟨rfl, rfl⟩
  go_wp2_with fail
  refine T1.out.mono ?_
  rintro e w2 ⟨rfl, rfl⟩
  go_wp2_with fail
  refine T2.out.mono ?_
  rintro e w2 ⟨rfl, rfl⟩
  go_wp2_with fail
  refine T3.out.mono ?_
  rintro e w2 ⟨rfl, rfl⟩
  go_wp2_with fail
  refine T4.out.mono ?_
  rintro e w2 ⟨rfl, rfl⟩
  go_wp2_with fail
  refine T5.out.mono ?_
  rintro e w2 ⟨rfl, rfl⟩
  go_wp2_with fail
  refine T6.out.mono ?_
  rintro e w2 ⟨rfl, rfl⟩
  go_wp2_with fail
  refine T7.out.mono ?_
  rintro e w2 ⟨rfl, rfl⟩
  go_wp2_with fail
  refine (awake_ok _).mono ?_
  rintro e w2 ⟨rfl, rfl⟩
  go_wp2_with fail
  go_ret
  exact ⟨rfl, rfl⟩

set_option maxHeartbeats 1000000 in
theorem orders_true_2 (n a b : Int) (hn : okBits n = true) (h0 : 0 ≤ a) (h1 : a < 18446744073709551616) (g0 : 0 ≤ b) (g1 : b < 18446744073709551616) (w : World)
    (hl : lessW true n (cut n a) (cut n b) = false) (hg : lessW true n (cut n b) (cut n a) = false) (he : (cut n a == cut n b) = true) :
    Calls Try.prog 7 #[.int .i64 n, .int .u64 a, .int .u64 b, .bool true] w (Ret w (.bool true)) := by
  have R := Lib.hid (lawright_ok n w)
  rw [hn] at R
  have T1 := Lib.hid (test_2 n a b hn h0 h1 g0 g1 w)
  have T2 := Lib.hid (test_4 n a b hn h0 h1 g0 g1 w)
  have T3 := Lib.hid (test_6 n a b hn h0 h1 g0 g1 w)
  have T4 := Lib.hid (test_8 n a b hn h0 h1 g0 g1 w)
  have T5 := Lib.hid (test_0 n a b hn h0 h1 g0 g1 w)
  have T6 := Lib.hid (test_1 n a b hn h0 h1 g0 g1 w)
  have T7 := Lib.hid (test_2 n b a hn g0 g1 h0 h1 w)
  have he2 : (cut n a != cut n b) = false := by simp only [bne, he]; rfl
  rw [hl] at T1 T4
  rw [hg] at T2 T3 T7
  rw [he] at T5
  rw [he2] at T6
  simp only [one, Bool.not_true, Bool.not_false, if_true, Bool.false_eq_true, if_false] at T1 T2 T3 T4 T5 T6 T7
  clear hl hg he he2 hn h0 h1 g0 g1
  go_enter Try.func7, Try.ntmps7
  go_wp2_with fail
  refine R.out.mono ?_
  rintro e w2 ⟨rfl, rfl⟩
  go_wp2_with fail
  refine T1.out.mono ?_
  rintro e w2 ⟨rfl, rfl⟩
  go_wp2_with fail
  refine T2.out.mono ?_
  rintro e w2 ⟨rfl, rfl⟩
  go_wp2_with fail
  refine T3.out.mono ?_
  rintro e w2 ⟨rfl, rfl⟩
  go_wp2_with fail
  refine T4.out.mono ?_
  rintro e w2 ⟨rfl, rfl⟩
  go_wp2_with fail
  refine T5.out.mono ?_
  rintro e w2 ⟨rfl, rfl⟩
  go_wp2_with fail
  refine T6.out.mono ?_
  rintro e w2 ⟨rfl, rfl⟩
  go_wp2_with fail
  refine T7.out.mono ?_
  rintro e w2 ⟨rfl, rfl⟩
  go_wp2_with fail
  refine (awake_ok _).mono ?_
  rintro e w2 ⟨rfl, rfl⟩
  go_wp2_with fail
  go_ret
  exact ⟨rfl, rfl⟩

set_option maxHeartbeats 1000000 in
theorem orders_false_0 (n a b : Int) (hn : okBits n = true) (h0 : 0 ≤ a) (h1 : a < 18446744073709551616) (g0 : 0 ≤ b) (g1 : b < 18446744073709551616) (w : World)
    (hl : lessW false n (cut n a) (cut n b) = true) (hg : lessW false n (cut n b) (cut n a) = false) (he : (cut n a == cut n b) = false) :
    Calls Try.prog 7 #[.int .i64 n, .int .u64 a, .int .u64 b, .bool false] w (Ret w (.bool true)) := by
  have R := Lib.hid (lawright_ok n w)
  rw [hn] at R
  have T1 := Lib.hid (test_3 n a b hn h0 h1 g0 g1 w)
  have T2 := Lib.hid (test_5 n a b hn h0 h1 g0 g1 w)
  have T3 := Lib.hid (test_7 n a b hn h0 h1 g0 g1 w)
  have T4 := Lib.hid (test_9 n a b hn h0 h1 g0 g1 w)
  have T5 := Lib.hid (test_0 n a b hn h0 h1 g0 g1 w)
  have T6 := Lib.hid (test_1 n a b hn h0 h1 g0 g1 w)
  have T7 := Lib.hid (test_3 n b a hn g0 g1 h0 h1 w)
  have he2 : (cut n a != cut n b) = true := by simp only [bne, he]; rfl
  rw [hl] at T1 T4
  rw [hg] at T2 T3 T7
  rw [he] at T5
  rw [he2] at T6
  simp only [one, Bool.not_true, Bool.not_false, if_true, Bool.false_eq_true, if_false] at T1 T2 T3 T4 T5 T6 T7
  clear hl hg he he2 hn h0 h1 g0 g1
  go_enter Try.func7, Try.ntmps7
  go_wp2_with fail
  refine R.out.mono ?_
  rintro e w2 ⟨rfl, rfl⟩
  go_wp2_with fail
  refine T1.out.mono ?_
  rintro e w2 ⟨rfl, rfl⟩
  go_wp2_with fail
  refine T2.out.mono ?_
  rintro e w2 ⟨rfl, rfl⟩
  go_wp2_with fail
  refine T3.out.mono ?_
  rintro e w2 ⟨rfl, rfl⟩
  go_wp2_with fail
  refine T4.out.mono ?_
  rintro e w2 ⟨rfl, rfl⟩
  go_wp2_with fail
  refine T5.out.mono ?_
  rintro e w2 ⟨rfl, rfl⟩
  go_wp2_with fail
  refine T6.out.mono ?_
  rintro e w2 ⟨rfl, rfl⟩
  go_wp2_with fail
  refine T7.out.mono ?_
  rintro e w2 ⟨rfl, rfl⟩
  go_wp2_with fail
  refine (awake_ok _).mono ?_
  rintro e w2 ⟨rfl, rfl⟩
  go_wp2_with fail
  go_ret
  exact ⟨rfl, rfl⟩

set_option maxHeartbeats 1000000 in
theorem orders_false_1 (n a b : Int) (hn : okBits n = true) (h0 : 0 ≤ a) (h1 : a < 18446744073709551616) (g0 : 0 ≤ b) (g1 : b < 18446744073709551616) (w : World)
    (hl : lessW false n (cut n a) (cut n b) = false) (hg : lessW false n (cut n b) (cut n a) = true) (he : (cut n a == cut n b) = false) :
    Calls Try.prog 7 #[.int .i64 n, .int .u64 a, .int .u64 b, .bool false] w (Ret w (.bool true)) := by
  have R := Lib.hid (lawright_ok n w)
  rw [hn] at R
  have T1 := Lib.hid (test_3 n a b hn h0 h1 g0 g1 w)
  have T2 := Lib.hid (test_5 n a b hn h0 h1 g0 g1 w)
  have T3 := Lib.hid (test_7 n a b hn h0 h1 g0 g1 w)
  have T4 := Lib.hid (test_9 n a b hn h0 h1 g0 g1 w)
  have T5 := Lib.hid (test_0 n a b hn h0 h1 g0 g1 w)
  have T6 := Lib.hid (test_1 n a b hn h0 h1 g0 g1 w)
  have T7 := Lib.hid (test_3 n b a hn g0 g1 h0 h1 w)
  have he2 : (cut n a != cut n b) = true := by simp only [bne, he]; rfl
  rw [hl] at T1 T4
  rw [hg] at T2 T3 T7
  rw [he] at T5
  rw [he2] at T6
  simp only [one, Bool.not_true, Bool.not_false, if_true, Bool.false_eq_true, if_false] at T1 T2 T3 T4 T5 T6 T7
  clear hl hg he he2 hn h0 h1 g0 g1
  go_enter Try.func7, Try.ntmps7
  go_wp2_with fail
  refine R.out.mono ?_
  rintro e w2 ⟨rfl, rfl⟩
  go_wp2_with fail
  refine T1.out.mono ?_
  rintro e w2 ⟨rfl, rfl⟩
  go_wp2_with fail
  refine T2.out.mono ?_
  rintro e w2 ⟨rfl, rfl⟩
  go_wp2_with fail
  refine T3.out.mono ?_
  rintro e w2 ⟨rfl, rfl⟩
  go_wp2_with fail
  refine T4.out.mono ?_
  rintro e w2 ⟨rfl, rfl⟩
  go_wp2_with fail
  refine T5.out.mono ?_
  rintro e w2 ⟨rfl, rfl⟩
  go_wp2_with fail
  refine T6.out.mono ?_
  rintro e w2 ⟨rfl, rfl⟩
  go_wp2_with fail
  refine T7.out.mono ?_
  rintro e w2 ⟨rfl, rfl⟩
  go_wp2_with fail
  refine (awake_ok _).mono ?_
  rintro e w2 ⟨rfl, rfl⟩
  go_wp2_with fail
  go_ret
  exact ⟨rfl, rfl⟩

set_option maxHeartbeats 1000000 in
theorem orders_false_2 (n a b : Int) (hn : okBits n = true) (h0 : 0 ≤ a) (h1 : a < 18446744073709551616) (g0 : 0 ≤ b) (g1 : b < 18446744073709551616) (w : World)
    (hl : lessW false n (cut n a) (cut n b) = false) (hg : lessW false n (cut n b) (cut n a) = false) (he : (cut n a == cut n b) = true) :
    Calls Try.prog 7 #[.int .i64 n, .int .u64 a, .int .u64 b, .bool false] w (Ret w (.bool true)) := by
  have R := Lib.hid (lawright_ok n w)
  rw [hn] at R
  have T1 := Lib.hid (test_3 n a b hn h0 h1 g0 g1 w)
  have T2 := Lib.hid (test_5 n a b hn h0 h1 g0 g1 w)
  have T3 := Lib.hid (test_7 n a b hn h0 h1 g0 g1 w)
  have T4 := Lib.hid (test_9 n a b hn h0 h1 g0 g1 w)
  have T5 := Lib.hid (test_0 n a b hn h0 h1 g0 g1 w)
  have T6 := Lib.hid (test_1 n a b hn h0 h1 g0 g1 w)
  have T7 := Lib.hid (test_3 n b a hn g0 g1 h0 h1 w)
  have he2 : (cut n a != cut n b) = false := by simp only [bne, he]; rfl
  rw [hl] at T1 T4
  rw [hg] at T2 T3 T7
  rw [he] at T5
  rw [he2] at T6
  simp only [one, Bool.not_true, Bool.not_false, if_true, Bool.false_eq_true, if_false] at T1 T2 T3 T4 T5 T6 T7
  clear hl hg he he2 hn h0 h1 g0 g1
  go_enter Try.func7, Try.ntmps7
  go_wp2_with fail
  refine R.out.mono ?_
  rintro e w2 ⟨rfl, rfl⟩
  go_wp2_with fail
  refine T1.out.mono ?_
  rintro e w2 ⟨rfl, rfl⟩
  go_wp2_with fail
  refine T2.out.mono ?_
  rintro e w2 ⟨rfl, rfl⟩
  go_wp2_with fail
  refine T3.out.mono ?_
  rintro e w2 ⟨rfl, rfl⟩
  go_wp2_with fail
  refine T4.out.mono ?_
  rintro e w2 ⟨rfl, rfl⟩
  go_wp2_with fail
  refine T5.out.mono ?_
  rintro e w2 ⟨rfl, rfl⟩
  go_wp2_with fail
  refine T6.out.mono ?_
  rintro e w2 ⟨rfl, rfl⟩
  go_wp2_with fail
  refine T7.out.mono ?_
  rintro e w2 ⟨rfl, rfl⟩
  go_wp2_with fail
  refine (awake_ok _).mono ?_
  rintro e w2 ⟨rfl, rfl⟩
  go_wp2_with fail
  go_ret
  exact ⟨rfl, rfl⟩

theorem orders_bad (n a b : Int) (s : Bool) (hn : okBits n = false) (w : World) :
    Calls Try.prog 7 #[.int .i64 n, .int .u64 a, .int .u64 b, .bool s] w (Ret w (.bool true)) := by
  have R := Lib.hid (lawright_ok n w)
  rw [hn] at R
  clear hn
  go_enter Try.func7, Try.ntmps7
  go_wp2_with fail
  refine R.out.mono ?_
  rintro e w2 ⟨rfl, rfl⟩
  go_wp2_with fail
  refine (awake_ok _).mono ?_
  rintro e w2 ⟨rfl, rfl⟩
  go_wp2_with fail
  go_ret
  exact ⟨rfl, rfl⟩

theorem orders_law (n a b : Int) (s : Bool) (h0 : 0 ≤ a) (h1 : a < 18446744073709551616) (g0 : 0 ≤ b) (g1 : b < 18446744073709551616) (w : World) :
    Calls Try.prog 7 #[.int .i64 n, .int .u64 a, .int .u64 b, .bool s] w (Ret w (.bool true)) := by
  cases hn : okBits n with
  | false => exact orders_bad n a b s hn w
  | true =>
    cases s with
    | true =>
      rcases tri true hn h0 h1 g0 g1 with ⟨hl, hg, he⟩ | ⟨hl, hg, he⟩ | ⟨hl, hg, he⟩
      · exact orders_true_0 n a b hn h0 h1 g0 g1 w hl hg he
      · exact orders_true_1 n a b hn h0 h1 g0 g1 w hl hg he
      · exact orders_true_2 n a b hn h0 h1 g0 g1 w hl hg he
    | false =>
      rcases tri false hn h0 h1 g0 g1 with ⟨hl, hg, he⟩ | ⟨hl, hg, he⟩ | ⟨hl, hg, he⟩
      · exact orders_false_0 n a b hn h0 h1 g0 g1 w hl hg he
      · exact orders_false_1 n a b hn h0 h1 g0 g1 w hl hg he
      · exact orders_false_2 n a b hn h0 h1 g0 g1 w hl hg he
end Go.Proofs.Ytphhgmeokmemlaa
