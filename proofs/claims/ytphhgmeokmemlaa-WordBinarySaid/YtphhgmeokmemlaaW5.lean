/- What comes of two words: by what arithmetic tells, and the document's example. -/
import Derived.Test.YtphhgmeokmemlaaW4
import Derived.OwnWalk
namespace Go.Proofs.Ytphhgmeokmemlaa
open Go.RowKit
set_option linter.unusedSimpArgs false
set_option linter.unusedVariables false

section binary
variable (op n a b : Int) (hn : okBits n = true) (h0 : 0 ≤ a) (h1 : a < 18446744073709551616) (g0 : 0 ≤ b) (g1 : b < 18446744073709551616) (w : World)
include hn h0 h1 g0 g1
theorem bin_arith (o0 : 0 ≤ op) (o1 : op < 7) (v : Int) (v0 : 0 ≤ v) (v1 : v < 18446744073709551616)
    (DV : Calls Try.prog 17 #[.int .i64 op, .int .i64 n, .int .u64 (cut n a), .int .u64 (cut n b)] w (Ret w (.int .i64 0)))
    (AR : Calls Try.prog 18 #[.int .i64 op, .int .i64 n, .int .u64 (cut n a), .int .u64 (cut n b)] w (Ret w (.int .u64 v))) :
    Calls Try.prog 8 #[.int .i64 op, .int .i64 n, .int .u64 a, .int .u64 b] w (Ret w (.tuple #[.int .u64 (cut n v), .int .i64 0, .int .i64 0])) := by
  have R := Lib.hid (right_ok n w)
  rw [hn] at R
  have CA := Lib.hid (cut_ok n a h0 h1 w)
  have CB := Lib.hid (cut_ok n b g0 g1 w)
  have CV := Lib.hid (cut_ok n v v0 v1 w)
  have D := Lib.hid DV
  have A := Lib.hid AR
  clear DV AR
  generalize cut n a = x at *
  generalize cut n b = y at *
  generalize cut n v = z at *
  clear hn
  go_enter Try.func8, Try.ntmps8
  go_wp2_with fail
  refine R.out.mono ?_
  rintro e w2 ⟨rfl, rfl⟩
  go_wp2_with fail
  refine CA.out.mono ?_
  rintro e w2 ⟨rfl, rfl⟩
  go_wp2_with fail
  refine CB.out.mono ?_
  rintro e w2 ⟨rfl, rfl⟩
  go_wp2_with fail
  refine D.out.mono ?_
  rintro e w2 ⟨rfl, rfl⟩
  go_wp2_with fail
  refine A.out.mono ?_
  rintro e w2 ⟨rfl, rfl⟩
  go_wp2_with fail
  refine CV.out.mono ?_
  rintro e w2 ⟨rfl, rfl⟩
  go_wp2_with fail
  go_ret3
  exact ⟨rfl, rfl⟩

theorem bin_bits (o0 : 7 ≤ op) (o1 : op < 15) (v : Int) (v0 : 0 ≤ v) (v1 : v < 18446744073709551616)
    (AR : Calls Try.prog 19 #[.int .i64 op, .int .i64 n, .int .u64 (cut n a), .int .u64 (cut n b)] w (Ret w (.int .u64 v))) :
    Calls Try.prog 8 #[.int .i64 op, .int .i64 n, .int .u64 a, .int .u64 b] w (Ret w (.tuple #[.int .u64 (cut n v), .int .i64 0, .int .i64 0])) := by
  have R := Lib.hid (right_ok n w)
  rw [hn] at R
  have CA := Lib.hid (cut_ok n a h0 h1 w)
  have CB := Lib.hid (cut_ok n b g0 g1 w)
  have CV := Lib.hid (cut_ok n v v0 v1 w)
  have D := Lib.hid (divides_no op n (cut n a) (cut n b) (Or.inr (by omega)) w)
  have A := Lib.hid AR
  clear AR
  generalize cut n a = x at *
  generalize cut n b = y at *
  generalize cut n v = z at *
  clear hn
  go_enter Try.func8, Try.ntmps8
  go_wp2_with fail
  refine R.out.mono ?_
  rintro e w2 ⟨rfl, rfl⟩
  go_wp2_with fail
  refine CA.out.mono ?_
  rintro e w2 ⟨rfl, rfl⟩
  go_wp2_with fail
  refine CB.out.mono ?_
  rintro e w2 ⟨rfl, rfl⟩
  go_wp2_with fail
  refine D.out.mono ?_
  rintro e w2 ⟨rfl, rfl⟩
  go_wp2_with fail
  refine A.out.mono ?_
  rintro e w2 ⟨rfl, rfl⟩
  go_wp2_with fail
  refine CV.out.mono ?_
  rintro e w2 ⟨rfl, rfl⟩
  go_wp2_with fail
  go_ret3
  exact ⟨rfl, rfl⟩

theorem bin_trap (o0 : 0 ≤ op) (o1 : op < 7) (t : Int) (ht : t ≠ 0)
    (DV : Calls Try.prog 17 #[.int .i64 op, .int .i64 n, .int .u64 (cut n a), .int .u64 (cut n b)] w (Ret w (.int .i64 t))) :
    Calls Try.prog 8 #[.int .i64 op, .int .i64 n, .int .u64 a, .int .u64 b] w (Ret w (.tuple #[.int .u64 0, .int .i64 t, .int .i64 0])) := by
  have R := Lib.hid (right_ok n w)
  rw [hn] at R
  have CA := Lib.hid (cut_ok n a h0 h1 w)
  have CB := Lib.hid (cut_ok n b g0 g1 w)
  have D := Lib.hid DV
  clear DV
  generalize cut n a = x at *
  generalize cut n b = y at *
  clear hn
  go_enter Try.func8, Try.ntmps8
  go_wp2_with fail
  refine R.out.mono ?_
  rintro e w2 ⟨rfl, rfl⟩
  go_wp2_with fail
  refine CA.out.mono ?_
  rintro e w2 ⟨rfl, rfl⟩
  go_wp2_with fail
  refine CB.out.mono ?_
  rintro e w2 ⟨rfl, rfl⟩
  go_wp2_with fail
  refine D.out.mono ?_
  rintro e w2 ⟨rfl, rfl⟩
  go_wp2_with fail
  go_ret3
  exact ⟨rfl, rfl⟩
end binary

theorem bin_bad (op n a b : Int) (h : okBits n = false ∨ op < 0 ∨ 14 < op) (w : World) :
    Calls Try.prog 8 #[.int .i64 op, .int .i64 n, .int .u64 a, .int .u64 b] w (Ret w (.tuple #[.int .u64 0, .int .i64 0, .int .i64 1])) := by
  have R := Lib.hid (right_ok n w)
  cases hn : okBits n with
  | false =>
    rw [hn] at R
    go_enter Try.func8, Try.ntmps8
    go_wp2_with fail
    refine R.out.mono ?_
    rintro e w2 ⟨rfl, rfl⟩
    go_wp2_with fail
    go_ret3
    exact ⟨rfl, rfl⟩
  | true =>
    rw [hn] at R h
    by_cases h1 : op < 0
    · clear h
      go_enter Try.func8, Try.ntmps8
      go_wp2_with fail
      refine R.out.mono ?_
      rintro e w2 ⟨rfl, rfl⟩
      go_wp2_with fail
      go_ret3
      exact ⟨rfl, rfl⟩
    · have h2 : 14 < op := by
        rcases h with h | h | h
        · cases h
        · exact absurd h h1
        · exact h
      clear h
      go_enter Try.func8, Try.ntmps8
      go_wp2_with fail
      refine R.out.mono ?_
      rintro e w2 ⟨rfl, rfl⟩
      go_wp2_with fail
      go_ret3
      exact ⟨rfl, rfl⟩

theorem bin_one (w : World) : Calls Try.prog 8 #[.int .i64 13, .int .i64 32, .int .u64 2147483648, .int .u64 1] w (Ret w (.tuple #[.int .u64 1, .int .i64 0, .int .i64 0])) :=
  bin_bits 13 32 2147483648 1 rfl (by decide) (by decide) (by decide) (by decide) w (by decide) (by decide) 1 (by decide) (by decide) (bit_one w)

theorem awake_ok (w : World) : Calls Try.prog 10 #[] w (Ret w (.bool true)) := by
  have S := Lib.hid (sign_ok 32 2147483648 (by decide) (by decide) w)
  rw [show sgn 32 2147483648 = -2147483648 by simp [sgn, wrap32]] at S
  go_enter Try.func10, Try.ntmps10
  go_wp2_with fail
  refine (bin_one _).mono ?_
  rintro e w2 ⟨rfl, rfl⟩
  go_wp2_with fail
  refine S.out.mono ?_
  rintro e w2 ⟨rfl, rfl⟩
  go_wp2_with fail
  go_ret
  exact ⟨rfl, rfl⟩
end Go.Proofs.Ytphhgmeokmemlaa
