/- What the ops on bits answer, in natural numbers; words turned and shifted: the walk. -/
import Derived.Test.YtphhgmeokmemlaaDoorV5
import Derived.Test.YtphhgmeokmemlaaDoorQ2
namespace Go.Proofs.YtphhgmeokmemlaaDoor
open Go.RowKit
set_option linter.unusedSimpArgs false
set_option linter.unusedVariables false
set_option linter.unusedSectionVars false

theorem shl_cast (x s : Nat) : ((x : Int) * 2 ^ s) % 18446744073709551616 = ((x * 2 ^ s % 18446744073709551616 : Nat) : Int) := by
  rw [Int.natCast_emod, Int.natCast_mul, Int.natCast_pow]; rfl
theorem shr_cast (x s : Nat) : (x : Int) / 2 ^ s = ((x / 2 ^ s : Nat) : Int) := by
  rw [Int.natCast_ediv, Int.natCast_pow]; rfl
theorem lt64 {v B : Nat} (h : v < B) (hB : B ≤ 18446744073709551616) : (v : Int) < 18446744073709551616 := by omega

theorem cutN32 (a : Nat) (ha : a < 18446744073709551616) : cut 32 (a : Int) = ((a % 4294967296 : Nat) : Int) := by
  simp [cut]
theorem cutV32 (v : Nat) (hv : v < 4294967296) : cut 32 (v : Int) = (v : Int) := by
  rw [cutN32 v (by omega), Nat.mod_eq_of_lt hv]
section
variable (a k : Nat) (ha : a < 18446744073709551616) (hk : k < 18446744073709551616) (w : World)
include ha hk
theorem b_rotl32 : Calls Tryd.prog 12 #[.int .i64 13, .int .i64 32, .int .u64 a, .int .u64 k] w (Ret w (.tuple #[.int .u64 (rot 32 (a % 4294967296) (k % 32) : Nat), .int .i64 0, .int .i64 0])) := by
  have hl := rot32_lt (a % 4294967296) (k % 32) (by omega)
  have h := bin_bits 13 32 (a : Int) (k : Int) rfl (by omega) (by omega) (by omega) (by omega) w (by decide) (by decide) (rot 32 (a % 4294967296) (k % 32) : Nat) (by omega) (by omega) (by
    rw [cutN32 a ha, cutN32 k hk]
    have := bit_rotl32 (a % 4294967296) (k % 4294967296) (by omega) (by omega) w
    rwa [show k % 4294967296 % 32 = k % 32 by omega] at this)
  rwa [cutV32 _ hl] at h
theorem b_rotr32 : Calls Tryd.prog 12 #[.int .i64 14, .int .i64 32, .int .u64 a, .int .u64 k] w (Ret w (.tuple #[.int .u64 (rot 32 (a % 4294967296) ((32 - k % 32) % 32) : Nat), .int .i64 0, .int .i64 0])) := by
  have hl := rot32_lt (a % 4294967296) ((32 - k % 32) % 32) (by omega)
  have h := bin_bits 14 32 (a : Int) (k : Int) rfl (by omega) (by omega) (by omega) (by omega) w (by decide) (by decide) (rot 32 (a % 4294967296) ((32 - k % 32) % 32) : Nat) (by omega) (by omega) (by
    rw [cutN32 a ha, cutN32 k hk]
    have := bit_rotr32 (a % 4294967296) (k % 4294967296) (by omega) (by omega) w
    rwa [show k % 4294967296 % 32 = k % 32 by omega] at this)
  rwa [cutV32 _ hl] at h
theorem b_shl32 : Calls Tryd.prog 12 #[.int .i64 10, .int .i64 32, .int .u64 a, .int .u64 k] w (Ret w (.tuple #[.int .u64 (((a % 4294967296) * 2 ^ (k % 32)) % 4294967296 : Nat), .int .i64 0, .int .i64 0])) := by
  have h := bin_bits 10 32 (a : Int) (k : Int) rfl (by omega) (by omega) (by omega) (by omega) w (by decide) (by decide) (((a % 4294967296) * 2 ^ (k % 32)) % 18446744073709551616 : Nat) (by omega) (by omega) (by
    rw [cutN32 a ha, cutN32 k hk]
    have := bit_shl 32 ((a % 4294967296 : Nat) : Int) ((k % 4294967296 : Nat) : Int) w (by decide) (by omega) (by omega)
    rw [show (((k % 4294967296 : Nat) : Int) % 32).toNat = k % 32 by omega, IntKind.wrap_u64] at this
    rwa [shl_cast] at this)
  rw [cutN32 _ (by omega), show ((a % 4294967296) * 2 ^ (k % 32)) % 18446744073709551616 % 4294967296 = ((a % 4294967296) * 2 ^ (k % 32)) % 4294967296 by omega] at h
  exact h
theorem b_shru32 : Calls Tryd.prog 12 #[.int .i64 12, .int .i64 32, .int .u64 a, .int .u64 k] w (Ret w (.tuple #[.int .u64 ((a % 4294967296) / 2 ^ (k % 32) : Nat), .int .i64 0, .int .i64 0])) := by
  have hl : (a % 4294967296) / 2 ^ (k % 32) < 4294967296 := Nat.lt_of_le_of_lt (Nat.div_le_self _ _) (by omega)
  have h := bin_bits 12 32 (a : Int) (k : Int) rfl (by omega) (by omega) (by omega) (by omega) w (by decide) (by decide) ((a % 4294967296) / 2 ^ (k % 32) : Nat) (Int.natCast_nonneg _) (lt64 hl (by decide)) (by
    rw [cutN32 a ha, cutN32 k hk]
    have := bit_shru 32 ((a % 4294967296 : Nat) : Int) ((k % 4294967296 : Nat) : Int) w (by decide) (by omega) (by omega) (by omega) (by omega)
    rw [show (((k % 4294967296 : Nat) : Int) % 32).toNat = k % 32 by omega] at this
    rwa [shr_cast] at this)
  rwa [cutV32 _ hl] at h
theorem b_and32 : Calls Tryd.prog 12 #[.int .i64 7, .int .i64 32, .int .u64 a, .int .u64 k] w (Ret w (.tuple #[.int .u64 ((a % 4294967296) &&& (k % 4294967296) : Nat), .int .i64 0, .int .i64 0])) := by
  have hl : (a % 4294967296) &&& (k % 4294967296) < 2 ^ 32 := Nat.and_lt_two_pow _ (by omega)
  have h := bin_bits 7 32 (a : Int) (k : Int) rfl (by omega) (by omega) (by omega) (by omega) w (by decide) (by decide) ((a % 4294967296) &&& (k % 4294967296) : Nat) (by omega) (by omega) (by
    rw [cutN32 a ha, cutN32 k hk]
    exact bit_and 32 (a % 4294967296) (k % 4294967296) w (by decide) (by omega) (by omega))
  rwa [cutV32 _ (by simpa using hl)] at h
theorem b_or32 : Calls Tryd.prog 12 #[.int .i64 8, .int .i64 32, .int .u64 a, .int .u64 k] w (Ret w (.tuple #[.int .u64 ((a % 4294967296) ||| (k % 4294967296) : Nat), .int .i64 0, .int .i64 0])) := by
  have hl : (a % 4294967296) ||| (k % 4294967296) < 2 ^ 32 := Nat.or_lt_two_pow (by omega) (by omega)
  have h := bin_bits 8 32 (a : Int) (k : Int) rfl (by omega) (by omega) (by omega) (by omega) w (by decide) (by decide) ((a % 4294967296) ||| (k % 4294967296) : Nat) (by omega) (by omega) (by
    rw [cutN32 a ha, cutN32 k hk]
    exact bit_or 32 (a % 4294967296) (k % 4294967296) w (by decide) (by omega) (by omega))
  rwa [cutV32 _ (by simpa using hl)] at h
theorem b_xor32 : Calls Tryd.prog 12 #[.int .i64 9, .int .i64 32, .int .u64 a, .int .u64 k] w (Ret w (.tuple #[.int .u64 ((a % 4294967296) ^^^ (k % 4294967296) : Nat), .int .i64 0, .int .i64 0])) := by
  have hl : (a % 4294967296) ^^^ (k % 4294967296) < 2 ^ 32 := Nat.xor_lt_two_pow (by omega) (by omega)
  have h := bin_bits 9 32 (a : Int) (k : Int) rfl (by omega) (by omega) (by omega) (by omega) w (by decide) (by decide) ((a % 4294967296) ^^^ (k % 4294967296) : Nat) (by omega) (by omega) (by
    rw [cutN32 a ha, cutN32 k hk]
    exact bit_xor 32 (a % 4294967296) (k % 4294967296) w (by decide) (by omega) (by omega))
  rwa [cutV32 _ (by simpa using hl)] at h
theorem u32_0 (hT : Tab w) : Calls Tryd.prog 6 #[.int .i64 0, .int .i64 32, .int .u64 a] w (UPost w (uval 0 32 (a % 4294967296))) := un32_0 a (a % 4294967296) ha (cutN32 a ha) (by omega) w hT
theorem u32_1 (hT : Tab w) : Calls Tryd.prog 6 #[.int .i64 1, .int .i64 32, .int .u64 a] w (UPost w (uval 1 32 (a % 4294967296))) := un32_1 a (a % 4294967296) ha (cutN32 a ha) (by omega) w hT
theorem u32_2 (hT : Tab w) : Calls Tryd.prog 6 #[.int .i64 2, .int .i64 32, .int .u64 a] w (UPost w (uval 2 32 (a % 4294967296))) := un32_2 a (a % 4294967296) ha (cutN32 a ha) (by omega) w hT
theorem u32_3 (hT : Tab w) : Calls Tryd.prog 6 #[.int .i64 3, .int .i64 32, .int .u64 a] w (UPost w (uval 3 32 (a % 4294967296))) := un32_3 a (a % 4294967296) ha (cutN32 a ha) (by omega) w hT
end

theorem cutN64 (a : Nat) (ha : a < 18446744073709551616) : cut 64 (a : Int) = ((a % 18446744073709551616 : Nat) : Int) := by
  simp [cut]; omega
theorem cutV64 (v : Nat) (hv : v < 18446744073709551616) : cut 64 (v : Int) = (v : Int) := by
  rw [cutN64 v (by omega), Nat.mod_eq_of_lt hv]
section
variable (a k : Nat) (ha : a < 18446744073709551616) (hk : k < 18446744073709551616) (w : World)
include ha hk
theorem b_rotl64 : Calls Tryd.prog 12 #[.int .i64 13, .int .i64 64, .int .u64 a, .int .u64 k] w (Ret w (.tuple #[.int .u64 (rot 64 (a % 18446744073709551616) (k % 64) : Nat), .int .i64 0, .int .i64 0])) := by
  have hl := rot64_lt (a % 18446744073709551616) (k % 64) (by omega)
  have h := bin_bits 13 64 (a : Int) (k : Int) rfl (by omega) (by omega) (by omega) (by omega) w (by decide) (by decide) (rot 64 (a % 18446744073709551616) (k % 64) : Nat) (by omega) (by omega) (by
    rw [cutN64 a ha, cutN64 k hk]
    have := bit_rotl64 (a % 18446744073709551616) (k % 18446744073709551616) (by omega) (by omega) w
    rwa [show k % 18446744073709551616 % 64 = k % 64 by omega] at this)
  rwa [cutV64 _ hl] at h
theorem b_rotr64 : Calls Tryd.prog 12 #[.int .i64 14, .int .i64 64, .int .u64 a, .int .u64 k] w (Ret w (.tuple #[.int .u64 (rot 64 (a % 18446744073709551616) ((64 - k % 64) % 64) : Nat), .int .i64 0, .int .i64 0])) := by
  have hl := rot64_lt (a % 18446744073709551616) ((64 - k % 64) % 64) (by omega)
  have h := bin_bits 14 64 (a : Int) (k : Int) rfl (by omega) (by omega) (by omega) (by omega) w (by decide) (by decide) (rot 64 (a % 18446744073709551616) ((64 - k % 64) % 64) : Nat) (by omega) (by omega) (by
    rw [cutN64 a ha, cutN64 k hk]
    have := bit_rotr64 (a % 18446744073709551616) (k % 18446744073709551616) (by omega) (by omega) w
    rwa [show k % 18446744073709551616 % 64 = k % 64 by omega] at this)
  rwa [cutV64 _ hl] at h
theorem b_shl64 : Calls Tryd.prog 12 #[.int .i64 10, .int .i64 64, .int .u64 a, .int .u64 k] w (Ret w (.tuple #[.int .u64 (((a % 18446744073709551616) * 2 ^ (k % 64)) % 18446744073709551616 : Nat), .int .i64 0, .int .i64 0])) := by
  have h := bin_bits 10 64 (a : Int) (k : Int) rfl (by omega) (by omega) (by omega) (by omega) w (by decide) (by decide) (((a % 18446744073709551616) * 2 ^ (k % 64)) % 18446744073709551616 : Nat) (by omega) (by omega) (by
    rw [cutN64 a ha, cutN64 k hk]
    have := bit_shl 64 ((a % 18446744073709551616 : Nat) : Int) ((k % 18446744073709551616 : Nat) : Int) w (by decide) (by omega) (by omega)
    rw [show (((k % 18446744073709551616 : Nat) : Int) % 64).toNat = k % 64 by omega, IntKind.wrap_u64] at this
    rwa [shl_cast] at this)
  rw [cutN64 _ (by omega), show ((a % 18446744073709551616) * 2 ^ (k % 64)) % 18446744073709551616 % 18446744073709551616 = ((a % 18446744073709551616) * 2 ^ (k % 64)) % 18446744073709551616 by omega] at h
  exact h
theorem b_shru64 : Calls Tryd.prog 12 #[.int .i64 12, .int .i64 64, .int .u64 a, .int .u64 k] w (Ret w (.tuple #[.int .u64 ((a % 18446744073709551616) / 2 ^ (k % 64) : Nat), .int .i64 0, .int .i64 0])) := by
  have hl : (a % 18446744073709551616) / 2 ^ (k % 64) < 18446744073709551616 := Nat.lt_of_le_of_lt (Nat.div_le_self _ _) (by omega)
  have h := bin_bits 12 64 (a : Int) (k : Int) rfl (by omega) (by omega) (by omega) (by omega) w (by decide) (by decide) ((a % 18446744073709551616) / 2 ^ (k % 64) : Nat) (Int.natCast_nonneg _) (lt64 hl (by decide)) (by
    rw [cutN64 a ha, cutN64 k hk]
    have := bit_shru 64 ((a % 18446744073709551616 : Nat) : Int) ((k % 18446744073709551616 : Nat) : Int) w (by decide) (by omega) (by omega) (by omega) (by omega)
    rw [show (((k % 18446744073709551616 : Nat) : Int) % 64).toNat = k % 64 by omega] at this
    rwa [shr_cast] at this)
  rwa [cutV64 _ hl] at h
theorem b_and64 : Calls Tryd.prog 12 #[.int .i64 7, .int .i64 64, .int .u64 a, .int .u64 k] w (Ret w (.tuple #[.int .u64 ((a % 18446744073709551616) &&& (k % 18446744073709551616) : Nat), .int .i64 0, .int .i64 0])) := by
  have hl : (a % 18446744073709551616) &&& (k % 18446744073709551616) < 2 ^ 64 := Nat.and_lt_two_pow _ (by omega)
  have h := bin_bits 7 64 (a : Int) (k : Int) rfl (by omega) (by omega) (by omega) (by omega) w (by decide) (by decide) ((a % 18446744073709551616) &&& (k % 18446744073709551616) : Nat) (by omega) (by omega) (by
    rw [cutN64 a ha, cutN64 k hk]
    exact bit_and 64 (a % 18446744073709551616) (k % 18446744073709551616) w (by decide) (by omega) (by omega))
  rwa [cutV64 _ (by simpa using hl)] at h
theorem b_or64 : Calls Tryd.prog 12 #[.int .i64 8, .int .i64 64, .int .u64 a, .int .u64 k] w (Ret w (.tuple #[.int .u64 ((a % 18446744073709551616) ||| (k % 18446744073709551616) : Nat), .int .i64 0, .int .i64 0])) := by
  have hl : (a % 18446744073709551616) ||| (k % 18446744073709551616) < 2 ^ 64 := Nat.or_lt_two_pow (by omega) (by omega)
  have h := bin_bits 8 64 (a : Int) (k : Int) rfl (by omega) (by omega) (by omega) (by omega) w (by decide) (by decide) ((a % 18446744073709551616) ||| (k % 18446744073709551616) : Nat) (by omega) (by omega) (by
    rw [cutN64 a ha, cutN64 k hk]
    exact bit_or 64 (a % 18446744073709551616) (k % 18446744073709551616) w (by decide) (by omega) (by omega))
  rwa [cutV64 _ (by simpa using hl)] at h
theorem b_xor64 : Calls Tryd.prog 12 #[.int .i64 9, .int .i64 64, .int .u64 a, .int .u64 k] w (Ret w (.tuple #[.int .u64 ((a % 18446744073709551616) ^^^ (k % 18446744073709551616) : Nat), .int .i64 0, .int .i64 0])) := by
  have hl : (a % 18446744073709551616) ^^^ (k % 18446744073709551616) < 2 ^ 64 := Nat.xor_lt_two_pow (by omega) (by omega)
  have h := bin_bits 9 64 (a : Int) (k : Int) rfl (by omega) (by omega) (by omega) (by omega) w (by decide) (by decide) ((a % 18446744073709551616) ^^^ (k % 18446744073709551616) : Nat) (by omega) (by omega) (by
    rw [cutN64 a ha, cutN64 k hk]
    exact bit_xor 64 (a % 18446744073709551616) (k % 18446744073709551616) w (by decide) (by omega) (by omega))
  rwa [cutV64 _ (by simpa using hl)] at h
theorem u64_0 (hT : Tab w) : Calls Tryd.prog 6 #[.int .i64 0, .int .i64 64, .int .u64 a] w (UPost w (uval 0 64 (a % 18446744073709551616))) := un64_0 a (a % 18446744073709551616) ha (cutN64 a ha) (by omega) w hT
theorem u64_1 (hT : Tab w) : Calls Tryd.prog 6 #[.int .i64 1, .int .i64 64, .int .u64 a] w (UPost w (uval 1 64 (a % 18446744073709551616))) := un64_1 a (a % 18446744073709551616) ha (cutN64 a ha) (by omega) w hT
theorem u64_2 (hT : Tab w) : Calls Tryd.prog 6 #[.int .i64 2, .int .i64 64, .int .u64 a] w (UPost w (uval 2 64 (a % 18446744073709551616))) := un64_2 a (a % 18446744073709551616) ha (cutN64 a ha) (by omega) w hT
theorem u64_3 (hT : Tab w) : Calls Tryd.prog 6 #[.int .i64 3, .int .i64 64, .int .u64 a] w (UPost w (uval 3 64 (a % 18446744073709551616))) := un64_3 a (a % 18446744073709551616) ha (cutN64 a ha) (by omega) w hT
end
end Go.Proofs.YtphhgmeokmemlaaDoor
