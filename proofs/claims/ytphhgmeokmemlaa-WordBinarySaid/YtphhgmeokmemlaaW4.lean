/- Shifts; a turn of one word; the document's example. -/
import Derived.Test.YtphhgmeokmemlaaW3
namespace Go.Proofs.Ytphhgmeokmemlaa
open Go.RowKit
set_option linter.unusedSimpArgs false
set_option linter.unusedVariables false

section bitwise
variable (n x y : Int) (w : World)
theorem bit_shl (hn : n = 32 ∨ n = 64) (hy : 0 ≤ y) (hy1 : y < 18446744073709551616) : Calls Try.prog 19 #[.int .i64 10, .int .i64 n, .int .u64 x, .int .u64 y] w (Ret w (.int .u64 (IntKind.u64.wrap (x * 2 ^ (y % n).toNat)))) := by
  rcases hn with rfl | rfl
  · have c1 : IntKind.u64.wrap (y % 32) = y % 32 := IntWalk.u64_in _ (by omega)
    have c2 : 0 ≤ y % 32 := by omega
    have c3 : y % 32 < 32 := by omega
    go_enter Try.func19, Try.ntmps19
    go_wp2_with fail
    go_ret
    exact ⟨rfl, rfl⟩
  · have c1 : IntKind.u64.wrap (y % 64) = y % 64 := IntWalk.u64_in _ (by omega)
    have c2 : 0 ≤ y % 64 := by omega
    have c3 : y % 64 < 64 := by omega
    go_enter Try.func19, Try.ntmps19
    go_wp2_with fail
    go_ret
    exact ⟨rfl, rfl⟩
theorem bit_shru (hn : n = 32 ∨ n = 64) (hx : 0 ≤ x) (hx1 : x < 18446744073709551616) (hy : 0 ≤ y) (hy1 : y < 18446744073709551616) : Calls Try.prog 19 #[.int .i64 12, .int .i64 n, .int .u64 x, .int .u64 y] w (Ret w (.int .u64 (x / 2 ^ (y % n).toNat))) := by
  rcases hn with rfl | rfl
  · have c1 : IntKind.u64.wrap (y % 32) = y % 32 := IntWalk.u64_in _ (by omega)
    have c2 : 0 ≤ y % 32 := by omega
    have c3 : y % 32 < 32 := by omega
    go_enter Try.func19, Try.ntmps19
    go_wp2_with fail
    go_ret
    exact ⟨rfl, rfl⟩
  · have c1 : IntKind.u64.wrap (y % 64) = y % 64 := IntWalk.u64_in _ (by omega)
    have c2 : 0 ≤ y % 64 := by omega
    have c3 : y % 64 < 64 := by omega
    go_enter Try.func19, Try.ntmps19
    go_wp2_with fail
    go_ret
    exact ⟨rfl, rfl⟩
end bitwise

theorem rot32_one (w : World) : Calls Try.prog 37 #[.int .u32 2147483648, .int .i64 1] w (Ret w (.int .u32 1)) := by
  have b1 : bits .and .u64 1 31 = 1 := by decide +kernel
  have b2 : bits .or .u32 0 1 = 1 := by decide +kernel
  go_enter Try.func37, Try.ntmps37
  go_wp2_with fail
  go_ret
  exact ⟨rfl, rfl⟩
theorem turn_one (w : World) : Calls Try.prog 34 #[.int .i64 32, .int .u64 2147483648, .int .i64 1] w (Ret w (.int .u64 1)) := by
  go_enter Try.func34, Try.ntmps34
  go_wp2_with fail
  refine (rot32_one _).mono ?_
  rintro e w2 ⟨rfl, rfl⟩
  go_wp2_with fail
  go_ret
  exact ⟨rfl, rfl⟩
theorem bit_one (w : World) : Calls Try.prog 19 #[.int .i64 13, .int .i64 32, .int .u64 2147483648, .int .u64 1] w (Ret w (.int .u64 1)) := by
  go_enter Try.func19, Try.ntmps19
  go_wp2_with fail
  refine (turn_one _).mono ?_
  rintro e w2 ⟨rfl, rfl⟩
  go_wp2_with fail
  go_ret
  exact ⟨rfl, rfl⟩
end Go.Proofs.Ytphhgmeokmemlaa
