/- When a division can be done. -/
import Derived.Test.YtphhgmeokmemlaaW2
namespace Go.Proofs.Ytphhgmeokmemlaa
open Go.RowKit
set_option linter.unusedSimpArgs false
set_option linter.unusedVariables false

def half (n : Int) : Int := if n = 32 then 2147483648 else 9223372036854775808

theorem divides_no (op n x y : Int) (h : op < 3 ∨ 6 < op) (w : World) : Calls Try.prog 17 #[.int .i64 op, .int .i64 n, .int .u64 x, .int .u64 y] w (Ret w (.int .i64 0)) := by
  by_cases h1 : op < 3
  · clear h
    go_enter Try.func17, Try.ntmps17
    go_wp2_with fail
    go_ret
    exact ⟨rfl, rfl⟩
  · have h2 : 6 < op := by omega
    clear h
    go_enter Try.func17, Try.ntmps17
    go_wp2_with fail
    go_ret
    exact ⟨rfl, rfl⟩

theorem divides_zero (op n x : Int) (h : 3 ≤ op) (h2 : op ≤ 6) (w : World) : Calls Try.prog 17 #[.int .i64 op, .int .i64 n, .int .u64 x, .int .u64 0] w (Ret w (.int .i64 2)) := by
  go_enter Try.func17, Try.ntmps17
  go_wp2_with fail
  go_ret
  exact ⟨rfl, rfl⟩

theorem divides_plain (op n x y : Int) (h : 4 ≤ op) (h2 : op ≤ 6) (hy : y ≠ 0) (w : World) : Calls Try.prog 17 #[.int .i64 op, .int .i64 n, .int .u64 x, .int .u64 y] w (Ret w (.int .i64 0)) := by
  go_enter Try.func17, Try.ntmps17
  go_wp2_with fail
  go_ret
  exact ⟨rfl, rfl⟩

theorem divides_signed (n x y : Int) (hn : n = 32 ∨ n = 64) (hy : y ≠ 0) (g0 : 0 ≤ y) (g1 : y < 18446744073709551616) (w : World) :
    Calls Try.prog 17 #[.int .i64 3, .int .i64 n, .int .u64 x, .int .u64 y] w (Ret w (.int .i64 (if sgn n y = -1 ∧ x = half n then 3 else 0))) := by
  have S := Lib.hid (sign_ok n y g0 g1 w)
  by_cases h1 : sgn n y = -1
  · rw [h1] at S
    by_cases h2 : x = half n
    · rw [if_pos ⟨h1, h2⟩]
      subst h2
      clear h1
      rcases hn with rfl | rfl
      · rw [show half 32 = 2147483648 from rfl]
        go_enter Try.func17, Try.ntmps17
        go_wp2_with fail
        refine S.out.mono ?_
        rintro e w2 ⟨rfl, rfl⟩
        go_wp2_with fail
        go_ret
        exact ⟨rfl, rfl⟩
      · rw [show half 64 = 9223372036854775808 from rfl]
        go_enter Try.func17, Try.ntmps17
        go_wp2_with fail
        refine S.out.mono ?_
        rintro e w2 ⟨rfl, rfl⟩
        go_wp2_with fail
        go_ret
        exact ⟨rfl, rfl⟩
    · rw [if_neg (fun h => h2 h.2)]
      clear h1
      rcases hn with rfl | rfl
      · rw [show half 32 = 2147483648 from rfl] at h2
        go_enter Try.func17, Try.ntmps17
        go_wp2_with fail
        refine S.out.mono ?_
        rintro e w2 ⟨rfl, rfl⟩
        go_wp2_with fail
        go_ret
        exact ⟨rfl, rfl⟩
      · rw [show half 64 = 9223372036854775808 from rfl] at h2
        go_enter Try.func17, Try.ntmps17
        go_wp2_with fail
        refine S.out.mono ?_
        rintro e w2 ⟨rfl, rfl⟩
        go_wp2_with fail
        go_ret
        exact ⟨rfl, rfl⟩
  · rw [if_neg (fun h => h1 h.1)]
    generalize sgn n y = z at *
    go_enter Try.func17, Try.ntmps17
    go_wp2_with fail
    refine S.out.mono ?_
    rintro e w2 ⟨rfl, rfl⟩
    go_wp2_with fail
    go_ret
    exact ⟨rfl, rfl⟩

/-! ### arithmetic -/
section arith
variable (n x y : Int) (w : World)
theorem arith_add : Calls Try.prog 18 #[.int .i64 0, .int .i64 n, .int .u64 x, .int .u64 y] w (Ret w (.int .u64 (IntKind.u64.wrap (x + y)))) := by
  go_enter Try.func18, Try.ntmps18
  go_wp2_with fail
  go_ret
  exact ⟨rfl, rfl⟩
theorem arith_sub : Calls Try.prog 18 #[.int .i64 1, .int .i64 n, .int .u64 x, .int .u64 y] w (Ret w (.int .u64 (IntKind.u64.wrap (x - y)))) := by
  go_enter Try.func18, Try.ntmps18
  go_wp2_with fail
  go_ret
  exact ⟨rfl, rfl⟩
theorem arith_mul : Calls Try.prog 18 #[.int .i64 2, .int .i64 n, .int .u64 x, .int .u64 y] w (Ret w (.int .u64 (IntKind.u64.wrap (x * y)))) := by
  go_enter Try.func18, Try.ntmps18
  go_wp2_with fail
  go_ret
  exact ⟨rfl, rfl⟩
theorem arith_divu (hx : 0 ≤ x) (hx1 : x < 18446744073709551616) (hy : 1 ≤ y) (hy1 : y < 18446744073709551616) : Calls Try.prog 18 #[.int .i64 4, .int .i64 n, .int .u64 x, .int .u64 y] w (Ret w (.int .u64 (x / y))) := by
  have h := IntWalk.u64_quo x y ⟨hx, by omega, hy⟩
  go_enter Try.func18, Try.ntmps18
  go_wp2_with fail
  go_ret
  exact ⟨rfl, rfl⟩
theorem arith_remu (hx : 0 ≤ x) (hx1 : x < 18446744073709551616) (hy : 1 ≤ y) (hy1 : y < 18446744073709551616) : Calls Try.prog 18 #[.int .i64 6, .int .i64 n, .int .u64 x, .int .u64 y] w (Ret w (.int .u64 (x % y))) := by
  go_enter Try.func18, Try.ntmps18
  go_wp2_with fail
  go_ret
  exact ⟨rfl, rfl⟩
end arith
end Go.Proofs.Ytphhgmeokmemlaa
