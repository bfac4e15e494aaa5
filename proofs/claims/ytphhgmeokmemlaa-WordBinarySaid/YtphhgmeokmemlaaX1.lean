/- The ops on bits: and, or, exclusive or, the turns. -/
import Derived.Test.YtphhgmeokmemlaaW9
import Derived.Laws.Bits64b
namespace Go.Proofs.Ytphhgmeokmemlaa
open Go.RowKit
set_option linter.unusedSimpArgs false
set_option linter.unusedVariables false

section ops
variable (n : Int) (x y : Nat) (w : World) (hn : n = 32 ∨ n = 64) (hx : x < 18446744073709551616) (hy : y < 18446744073709551616)
include hn hx hy
theorem bit_and : Calls Try.prog 19 #[.int .i64 7, .int .i64 n, .int .u64 x, .int .u64 y] w (Ret w (.int .u64 ((x &&& y : Nat) : Int))) := by
  have h := bits_and_u64_nat x y hx hy
  rcases hn with rfl | rfl
  · have c1 : IntKind.u64.wrap ((y : Int) % 32) = (y : Int) % 32 := IntWalk.u64_in _ (by omega)
    go_enter Try.func19, Try.ntmps19
    go_wp2_with fail
    go_ret
    exact ⟨rfl, rfl⟩
  · have c1 : IntKind.u64.wrap ((y : Int) % 64) = (y : Int) % 64 := IntWalk.u64_in _ (by omega)
    go_enter Try.func19, Try.ntmps19
    go_wp2_with fail
    go_ret
    exact ⟨rfl, rfl⟩
theorem bit_or : Calls Try.prog 19 #[.int .i64 8, .int .i64 n, .int .u64 x, .int .u64 y] w (Ret w (.int .u64 ((x ||| y : Nat) : Int))) := by
  have h := bits_or_u64_nat x y hx hy
  rcases hn with rfl | rfl
  · have c1 : IntKind.u64.wrap ((y : Int) % 32) = (y : Int) % 32 := IntWalk.u64_in _ (by omega)
    go_enter Try.func19, Try.ntmps19
    go_wp2_with fail
    go_ret
    exact ⟨rfl, rfl⟩
  · have c1 : IntKind.u64.wrap ((y : Int) % 64) = (y : Int) % 64 := IntWalk.u64_in _ (by omega)
    go_enter Try.func19, Try.ntmps19
    go_wp2_with fail
    go_ret
    exact ⟨rfl, rfl⟩
theorem bit_xor : Calls Try.prog 19 #[.int .i64 9, .int .i64 n, .int .u64 x, .int .u64 y] w (Ret w (.int .u64 ((x ^^^ y : Nat) : Int))) := by
  have h := u64_xor_nat x y hx hy
  rcases hn with rfl | rfl
  · have c1 : IntKind.u64.wrap ((y : Int) % 32) = (y : Int) % 32 := IntWalk.u64_in _ (by omega)
    go_enter Try.func19, Try.ntmps19
    go_wp2_with fail
    go_ret
    exact ⟨rfl, rfl⟩
  · have c1 : IntKind.u64.wrap ((y : Int) % 64) = (y : Int) % 64 := IntWalk.u64_in _ (by omega)
    go_enter Try.func19, Try.ntmps19
    go_wp2_with fail
    go_ret
    exact ⟨rfl, rfl⟩
end ops

/-- A word of N bits, turned to the left. -/
def rot (N x s : Nat) : Nat := (x * 2 ^ s) % 2 ^ N ||| x / 2 ^ (N - s)


theorem rot32_lt (x s : Nat) (hx : x < 4294967296) : rot 32 x s < 4294967296 := by
  have h1 : x * 2 ^ s % 2 ^ 32 < 2 ^ 32 := Nat.mod_lt _ (by decide)
  have h2 : x / 2 ^ (32 - s) < 2 ^ 32 := Nat.lt_of_le_of_lt (Nat.div_le_self _ _) (by simpa using hx)
  exact Nat.or_lt_two_pow h1 h2
theorem rot32_int (x s : Nat) (hx : x < 4294967296) (hs : s < 32) : bits .or .u32 ((x : Int) * 2 ^ s % 4294967296) ((x : Int) / 2 ^ (32 - s)) = ((rot 32 x s : Nat) : Int) := by
  have h1 : x * 2 ^ s % 2 ^ 32 < 2 ^ 32 := Nat.mod_lt _ (by decide)
  have h2 : x / 2 ^ (32 - s) < 2 ^ 32 := Nat.lt_of_le_of_lt (Nat.div_le_self _ _) (by simpa using hx)
  have h3 := u32_or_nat (x * 2 ^ s % 2 ^ 32) (x / 2 ^ (32 - s)) (by simpa using h1) (by simpa using h2)
  rw [rot, ← h3]
  congr 1

set_option maxHeartbeats 400000 in
theorem rot32_ok (x s : Nat) (k : Int) (hx : x < 4294967296) (hs : s < 32) (hk : bits .and .u64 (IntKind.u64.wrap k) 31 = (s : Int)) (w : World) : Calls Try.prog 37 #[.int .u32 x, .int .i64 k] w (Ret w (.int .u32 (rot 32 x s : Nat))) := by
  have c1 : IntKind.u64.wrap (32 - (s : Int)) = 32 - (s : Int) := IntWalk.u64_in _ (by omega)
  have h := rot32_int x s hx hs
  go_enter Try.func37, Try.ntmps37
  go_wp2_with fail
  go_ret
  exact ⟨by simp [IntKind.wrap_u64, h], rfl⟩

theorem and_mask32 (s : Nat) (hs : s < 18446744073709551616) : bits .and .u64 (s : Int) 31 = ((s % 32 : Nat) : Int) := by
  have h := bits_and_u64_nat s 31 hs (by decide)
  rw [show s &&& 31 = s % 32 from Nat.and_two_pow_sub_one_eq_mod s 5] at h
  exact h
theorem mask32_pos (s : Nat) (hs : s < 32) : bits .and .u64 (IntKind.u64.wrap (s : Int)) 31 = (s : Int) := by
  rw [IntWalk.u64_in _ (by omega), and_mask32 s (by omega), Nat.mod_eq_of_lt hs]
theorem mask32_neg (s : Nat) (hs : s < 32) : bits .and .u64 (IntKind.u64.wrap (-(s : Int))) 31 = (((32 - s) % 32 : Nat) : Int) := by
  have e : IntKind.u64.wrap (-(s : Int)) = (((18446744073709551616 - s) % 18446744073709551616 : Nat) : Int) := by rw [IntKind.wrap_u64]; omega
  rw [e, and_mask32 _ (by omega)]
  omega

theorem rot64_lt (x s : Nat) (hx : x < 18446744073709551616) : rot 64 x s < 18446744073709551616 := by
  have h1 : x * 2 ^ s % 2 ^ 64 < 2 ^ 64 := Nat.mod_lt _ (by decide)
  have h2 : x / 2 ^ (64 - s) < 2 ^ 64 := Nat.lt_of_le_of_lt (Nat.div_le_self _ _) (by simpa using hx)
  exact Nat.or_lt_two_pow h1 h2
theorem rot64_int (x s : Nat) (hx : x < 18446744073709551616) (hs : s < 64) : bits .or .u64 ((x : Int) * 2 ^ s % 18446744073709551616) ((x : Int) / 2 ^ (64 - s)) = ((rot 64 x s : Nat) : Int) := by
  have h1 : x * 2 ^ s % 2 ^ 64 < 2 ^ 64 := Nat.mod_lt _ (by decide)
  have h2 : x / 2 ^ (64 - s) < 2 ^ 64 := Nat.lt_of_le_of_lt (Nat.div_le_self _ _) (by simpa using hx)
  have h3 := u64_or_nat (x * 2 ^ s % 2 ^ 64) (x / 2 ^ (64 - s)) (by simpa using h1) (by simpa using h2)
  rw [rot, ← h3]
  congr 1

set_option maxHeartbeats 400000 in
theorem rot64_ok (x s : Nat) (k : Int) (hx : x < 18446744073709551616) (hs : s < 64) (hk : bits .and .u64 (IntKind.u64.wrap k) 63 = (s : Int)) (w : World) : Calls Try.prog 38 #[.int .u64 x, .int .i64 k] w (Ret w (.int .u64 (rot 64 x s : Nat))) := by
  have c1 : IntKind.u64.wrap (64 - (s : Int)) = 64 - (s : Int) := IntWalk.u64_in _ (by omega)
  have h := rot64_int x s hx hs
  go_enter Try.func38, Try.ntmps38
  go_wp2_with fail
  go_ret
  exact ⟨by simp [IntKind.wrap_u64, h], rfl⟩

theorem and_mask64 (s : Nat) (hs : s < 18446744073709551616) : bits .and .u64 (s : Int) 63 = ((s % 64 : Nat) : Int) := by
  have h := bits_and_u64_nat s 63 hs (by decide)
  rw [show s &&& 63 = s % 64 from Nat.and_two_pow_sub_one_eq_mod s 6] at h
  exact h
theorem mask64_pos (s : Nat) (hs : s < 64) : bits .and .u64 (IntKind.u64.wrap (s : Int)) 63 = (s : Int) := by
  rw [IntWalk.u64_in _ (by omega), and_mask64 s (by omega), Nat.mod_eq_of_lt hs]
theorem mask64_neg (s : Nat) (hs : s < 64) : bits .and .u64 (IntKind.u64.wrap (-(s : Int))) 63 = (((64 - s) % 64 : Nat) : Int) := by
  have e : IntKind.u64.wrap (-(s : Int)) = (((18446744073709551616 - s) % 18446744073709551616 : Nat) : Int) := by rw [IntKind.wrap_u64]; omega
  rw [e, and_mask64 _ (by omega)]
  omega

theorem turn32_ok (x s : Nat) (k : Int) (hx : x < 4294967296) (hs : s < 32) (hk : bits .and .u64 (IntKind.u64.wrap k) 31 = (s : Int)) (w : World) : Calls Try.prog 34 #[.int .i64 32, .int .u64 x, .int .i64 k] w (Ret w (.int .u64 (rot 32 x s : Nat))) := by
  have RT := Lib.hid (rot32_ok x s k hx hs hk w)
  have hl := rot32_lt x s hx
  have c1 : IntKind.u32.wrap (x : Int) = (x : Int) := by rw [IntKind.wrap_u32]; omega
  have c2 : IntKind.u64.wrap ((rot 32 x s : Nat) : Int) = ((rot 32 x s : Nat) : Int) := IntWalk.u64_in _ (by omega)
  generalize rot 32 x s = r at *
  clear hk
  go_enter Try.func34, Try.ntmps34
  go_wp2_with fail
  refine RT.out.mono ?_
  rintro e w2 ⟨rfl, rfl⟩
  go_wp2_with fail
  go_ret
  exact ⟨rfl, rfl⟩
theorem bit_rotl32 (x y : Nat) (hx : x < 4294967296) (hy : y < 18446744073709551616) (w : World) : Calls Try.prog 19 #[.int .i64 13, .int .i64 32, .int .u64 x, .int .u64 y] w (Ret w (.int .u64 (rot 32 x (y % 32) : Nat))) := by
  have c1 : IntKind.u64.wrap ((y : Int) % 32) = (y : Int) % 32 := IntWalk.u64_in _ (by omega)
  have TN := turn32_ok x (y % 32) ((y % 32 : Nat) : Int) hx (by omega) (mask32_pos _ (by omega)) w
  rw [show ((y % 32 : Nat) : Int) = (y : Int) % 32 by omega] at TN
  have TN2 := Lib.hid TN
  clear TN
  go_enter Try.func19, Try.ntmps19
  go_wp2_with fail
  refine TN2.out.mono ?_
  rintro e w2 ⟨rfl, rfl⟩
  go_wp2_with fail
  go_ret
  exact ⟨rfl, rfl⟩
theorem bit_rotr32 (x y : Nat) (hx : x < 4294967296) (hy : y < 18446744073709551616) (w : World) : Calls Try.prog 19 #[.int .i64 14, .int .i64 32, .int .u64 x, .int .u64 y] w (Ret w (.int .u64 (rot 32 x ((32 - y % 32) % 32) : Nat))) := by
  have c1 : IntKind.u64.wrap ((y : Int) % 32) = (y : Int) % 32 := IntWalk.u64_in _ (by omega)
  have TN := turn32_ok x ((32 - y % 32) % 32) (-((y % 32 : Nat) : Int)) hx (by omega) (mask32_neg _ (by omega)) w
  rw [show ((y % 32 : Nat) : Int) = (y : Int) % 32 by omega] at TN
  have TN2 := Lib.hid TN
  clear TN
  have c2 : IntKind.i64.wrap (-((y : Int) % 32)) = -((y : Int) % 32) := IntWalk.i64_in _ (by omega)
  go_enter Try.func19, Try.ntmps19
  go_wp2_with fail
  refine TN2.out.mono ?_
  rintro e w2 ⟨rfl, rfl⟩
  go_wp2_with fail
  go_ret
  exact ⟨rfl, rfl⟩

theorem turn64_ok (x s : Nat) (k : Int) (hx : x < 18446744073709551616) (hs : s < 64) (hk : bits .and .u64 (IntKind.u64.wrap k) 63 = (s : Int)) (w : World) : Calls Try.prog 34 #[.int .i64 64, .int .u64 x, .int .i64 k] w (Ret w (.int .u64 (rot 64 x s : Nat))) := by
  have RT := Lib.hid (rot64_ok x s k hx hs hk w)
  have hl := rot64_lt x s hx
  generalize rot 64 x s = r at *
  clear hk
  go_enter Try.func34, Try.ntmps34
  go_wp2_with fail
  refine RT.out.mono ?_
  rintro e w2 ⟨rfl, rfl⟩
  go_wp2_with fail
  go_ret
  exact ⟨rfl, rfl⟩
theorem bit_rotl64 (x y : Nat) (hx : x < 18446744073709551616) (hy : y < 18446744073709551616) (w : World) : Calls Try.prog 19 #[.int .i64 13, .int .i64 64, .int .u64 x, .int .u64 y] w (Ret w (.int .u64 (rot 64 x (y % 64) : Nat))) := by
  have c1 : IntKind.u64.wrap ((y : Int) % 64) = (y : Int) % 64 := IntWalk.u64_in _ (by omega)
  have TN := turn64_ok x (y % 64) ((y % 64 : Nat) : Int) hx (by omega) (mask64_pos _ (by omega)) w
  rw [show ((y % 64 : Nat) : Int) = (y : Int) % 64 by omega] at TN
  have TN2 := Lib.hid TN
  clear TN
  go_enter Try.func19, Try.ntmps19
  go_wp2_with fail
  refine TN2.out.mono ?_
  rintro e w2 ⟨rfl, rfl⟩
  go_wp2_with fail
  go_ret
  exact ⟨rfl, rfl⟩
theorem bit_rotr64 (x y : Nat) (hx : x < 18446744073709551616) (hy : y < 18446744073709551616) (w : World) : Calls Try.prog 19 #[.int .i64 14, .int .i64 64, .int .u64 x, .int .u64 y] w (Ret w (.int .u64 (rot 64 x ((64 - y % 64) % 64) : Nat))) := by
  have c1 : IntKind.u64.wrap ((y : Int) % 64) = (y : Int) % 64 := IntWalk.u64_in _ (by omega)
  have TN := turn64_ok x ((64 - y % 64) % 64) (-((y % 64 : Nat) : Int)) hx (by omega) (mask64_neg _ (by omega)) w
  rw [show ((y % 64 : Nat) : Int) = (y : Int) % 64 by omega] at TN
  have TN2 := Lib.hid TN
  clear TN
  have c2 : IntKind.i64.wrap (-((y : Int) % 64)) = -((y : Int) % 64) := IntWalk.i64_in _ (by omega)
  go_enter Try.func19, Try.ntmps19
  go_wp2_with fail
  refine TN2.out.mono ?_
  rintro e w2 ⟨rfl, rfl⟩
  go_wp2_with fail
  go_ret
  exact ⟨rfl, rfl⟩
end Go.Proofs.Ytphhgmeokmemlaa
