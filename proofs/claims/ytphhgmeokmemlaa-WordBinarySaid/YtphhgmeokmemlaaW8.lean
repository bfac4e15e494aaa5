/- A number is its quotient times the other one and the rest: plain laws and the walks of the ops with a sign. -/
import Derived.Test.YtphhgmeokmemlaaW7
namespace Go.Proofs.Ytphhgmeokmemlaa
open Go.RowKit
set_option linter.unusedSimpArgs false
set_option linter.unusedVariables false

def md (n : Int) : Int := if n = 32 then 4294967296 else 18446744073709551616

theorem cut_mod {n : Int} (hn : n = 32 ∨ n = 64) {z : Int} (h0 : 0 ≤ z) (h1 : z < 18446744073709551616) : cut n z = z % md n := by
  rcases hn with rfl | rfl
  · simp [cut, md]
  · simp only [cut, md, show (64 : Int) ≠ 32 by decide, if_false]; omega
theorem cut_wrap {n : Int} (hn : n = 32 ∨ n = 64) (z : Int) : cut n (IntKind.u64.wrap z) = z % md n := by
  rcases hn with rfl | rfl
  · simp only [cut, md, if_true, IntKind.wrap_u64]; omega
  · simp only [cut, md, show (64 : Int) ≠ 32 by decide, if_false, IntKind.wrap_u64]
theorem md_pos {n : Int} (hn : n = 32 ∨ n = 64) : 0 < md n ∧ md n ≤ 18446744073709551616 := by
  rcases hn with rfl | rfl <;> simp [md]
theorem mod_range {n : Int} (hn : n = 32 ∨ n = 64) (z : Int) : 0 ≤ z % md n ∧ z % md n < 18446744073709551616 := by
  have h := md_pos hn
  have := Int.emod_nonneg z (show md n ≠ 0 by omega)
  have := Int.emod_lt_of_pos z h.1
  omega
theorem cut_modmod {n : Int} (hn : n = 32 ∨ n = 64) (z : Int) : cut n (z % md n) = z % md n := by
  have r := mod_range hn z
  rw [cut_mod hn r.1 r.2, Int.emod_emod]

theorem divlaw (M q r X Y a b : Int) (h : q * Y + r = X) (hX : X % M = a % M) (hY : Y % M = b % M) : ((q % M * (b % M)) % M + r % M) % M = a % M := by
  rw [← hY, ← Int.mul_emod, ← Int.add_emod, h, hX]

theorem sgn_mod {n : Int} (hn : n = 32 ∨ n = 64) (z : Int) : sgn n z % md n = z % md n := by
  rcases hn with rfl | rfl
  · simp only [sgn, md, if_true, wrap32]; omega
  · simp only [sgn, md, show (64 : Int) ≠ 32 by decide, if_false, wrap64]; omega
theorem sgn_range {n : Int} (hn : n = 32 ∨ n = 64) (z : Int) : -9223372036854775808 ≤ sgn n z ∧ sgn n z < 9223372036854775808 := by
  rcases hn with rfl | rfl
  · simp only [sgn, if_true, wrap32]; omega
  · simp only [sgn, show (64 : Int) ≠ 32 by decide, if_false, wrap64]; omega
theorem sgn_zero {n : Int} (hn : n = 32 ∨ n = 64) {z : Int} (h0 : 0 ≤ z) (h1 : z < 18446744073709551616) (h : cut n z ≠ 0) : sgn n (cut n z) ≠ 0 := by
  rcases hn with rfl | rfl
  · simp only [sgn, cut, if_true, wrap32] at h ⊢; omega
  · simp only [sgn, cut, show (64 : Int) ≠ 32 by decide, if_false, wrap64] at h ⊢; omega
theorem sgn_cut {n : Int} (hn : n = 32 ∨ n = 64) (z : Int) : sgn n (cut n z) = sgn n z := by
  rcases hn with rfl | rfl
  · simp only [sgn, cut, if_true, wrap32]; omega
  · simp only [cut, show (64 : Int) ≠ 32 by decide, if_false]

theorem rest_ok (X Y : Int) (hY : Y ≠ 0) (w : World) : Calls Try.prog 33 #[.int .i64 X, .int .i64 Y] w (Ret w (.int .i64 (X.tmod Y))) := by
  by_cases h : Y = -1
  · subst h
    rw [show X.tmod (-1) = 0 by simp]
    go_enter Try.func33, Try.ntmps33
    go_wp2_with fail
    go_ret
    exact ⟨rfl, rfl⟩
  · go_enter Try.func33, Try.ntmps33
    go_wp2_with fail
    go_ret
    exact ⟨rfl, rfl⟩

section arith
variable (n x y : Int) (w : World)
theorem arith_divs (hn : n = 32 ∨ n = 64) (hx : 0 ≤ x) (hx1 : x < 18446744073709551616) (hy : 0 ≤ y) (hy1 : y < 18446744073709551616) (hz : sgn n y ≠ 0) (hq : -9223372036854775808 ≤ (sgn n x).tdiv (sgn n y) ∧ (sgn n x).tdiv (sgn n y) ≤ 9223372036854775807) :
    Calls Try.prog 18 #[.int .i64 3, .int .i64 n, .int .u64 x, .int .u64 y] w (Ret w (.int .u64 (IntKind.u64.wrap ((sgn n x).tdiv (sgn n y))))) := by
  have SX := Lib.hid (sign_ok n x hx hx1 w)
  have SY := Lib.hid (sign_ok n y hy hy1 w)
  generalize sgn n x = X at *
  generalize sgn n y = Y at *
  have c := IntWalk.wrap64_in _ hq
  go_enter Try.func18, Try.ntmps18
  go_wp2_with fail
  refine SX.out.mono ?_
  rintro e w2 ⟨rfl, rfl⟩
  go_wp2_with fail
  refine SY.out.mono ?_
  rintro e w2 ⟨rfl, rfl⟩
  go_wp2_with fail
  go_ret
  exact ⟨rfl, rfl⟩
theorem arith_rems (hn : n = 32 ∨ n = 64) (hx : 0 ≤ x) (hx1 : x < 18446744073709551616) (hy : 0 ≤ y) (hy1 : y < 18446744073709551616) (hz : sgn n y ≠ 0) :
    Calls Try.prog 18 #[.int .i64 5, .int .i64 n, .int .u64 x, .int .u64 y] w (Ret w (.int .u64 (IntKind.u64.wrap ((sgn n x).tmod (sgn n y))))) := by
  have SX := Lib.hid (sign_ok n x hx hx1 w)
  have SY := Lib.hid (sign_ok n y hy hy1 w)
  have RS := Lib.hid (rest_ok (sgn n x) (sgn n y) hz w)
  generalize sgn n x = X at *
  generalize sgn n y = Y at *
  go_enter Try.func18, Try.ntmps18
  go_wp2_with fail
  refine SX.out.mono ?_
  rintro e w2 ⟨rfl, rfl⟩
  go_wp2_with fail
  refine SY.out.mono ?_
  rintro e w2 ⟨rfl, rfl⟩
  go_wp2_with fail
  refine RS.out.mono ?_
  rintro e w2 ⟨rfl, rfl⟩
  go_wp2_with fail
  go_ret
  exact ⟨rfl, rfl⟩
end arith
end Go.Proofs.Ytphhgmeokmemlaa
