/- The small functions of words: cut, sign, right, is. Conditions: none beyond those that each theorem names. -/
import Derived.Test.YtphhgmeokmemlaaDoorRows
import Derived.DataShut
import Derived.WalkKit
import Derived.WalkSpells
import Derived.WalkLawsBesides
import Derived.Handy
import Derived.Lib.Hide
import Derived.BigRegion
import Derived.BigQuiet
import Derived.Laws.BitsAllLaws
import Derived.Below
namespace Go.Proofs.YtphhgmeokmemlaaDoor
open Go.RowKit
set_option linter.unusedSimpArgs false
set_option linter.unusedVariables false

theorem u64_range {n : Int} (h : (Lit.int .u64 n).wf = true) : 0 ≤ n ∧ n < 18446744073709551616 := by
  have := (Lit.wf_int_iff _ _).1 h
  rw [IntKind.min_u64, IntKind.max_u64] at this
  omega
theorem i64_range {n : Int} (h : (Lit.int .i64 n).wf = true) : -9223372036854775808 ≤ n ∧ n < 9223372036854775808 := by
  have := (Lit.wf_int_iff _ _).1 h
  rw [IntKind.min_i64, IntKind.max_i64] at this
  omega
def cut (n a : Int) : Int := if n = 32 then a % 4294967296 else a
def sgn (n a : Int) : Int := if n = 32 then wrap32 a else wrap64 a
def okBits (n : Int) : Bool := n == 32 || n == 64
/-- a returned value, no world changed. -/
abbrev Ret (w : World) (v : Value) (e : Ending) (w' : World) : Prop := e = .returned v ∧ w = w'

theorem cut_ok (n a : Int) (h0 : 0 ≤ a) (h1 : a < 18446744073709551616) (w : World) : Calls Tryd.prog 7 #[.int .i64 n, .int .u64 a] w (Ret w (.int .u64 (cut n a))) := by
  have c1 : IntKind.u32.wrap a = a % 4294967296 := IntKind.wrap_u32 a
  have c2 : IntKind.u64.wrap (a % 4294967296) = a % 4294967296 := IntWalk.u64_in _ (by omega)
  by_cases h : n = 32
  · have hc : cut n a = a % 4294967296 := by simp [cut, h]
    rw [hc]
    go_enter Tryd.func7, Tryd.ntmps7
    go_wp2_with fail
    go_ret
    try rw [c1, c2]
    exact ⟨rfl, rfl⟩
  · have hc : cut n a = a := by simp [cut, h]
    rw [hc]
    go_enter Tryd.func7, Tryd.ntmps7
    go_wp2_with fail
    go_ret
    exact ⟨rfl, rfl⟩

theorem sign_ok (n a : Int) (h0 : 0 ≤ a) (h1 : a < 18446744073709551616) (w : World) : Calls Tryd.prog 8 #[.int .i64 n, .int .u64 a] w (Ret w (.int .i64 (sgn n a))) := by
  by_cases h : n = 32
  · have hc : sgn n a = wrap64 (wrap32 a) := by simp only [sgn, h, if_true, wrap64, wrap32]; omega
    rw [hc]
    go_enter Tryd.func8, Tryd.ntmps8
    go_wp2_with fail
    go_ret
    exact ⟨rfl, rfl⟩
  · have hc : sgn n a = wrap64 a := by simp [sgn, h]
    rw [hc]
    go_enter Tryd.func8, Tryd.ntmps8
    go_wp2_with fail
    go_ret
    exact ⟨rfl, rfl⟩

theorem right_ok (n : Int) (w : World) : Calls Tryd.prog 13 #[.int .i64 n] w (Ret w (.bool (okBits n))) := by
  by_cases h : n = 32
  · subst h
    go_enter Tryd.func13, Tryd.ntmps13
    go_wp2_with fail
    go_ret
    exact ⟨rfl, rfl⟩
  · go_enter Tryd.func13, Tryd.ntmps13
    go_wp2_with fail
    go_ret
    exact ⟨rfl, rfl⟩

theorem lawright_ok (n : Int) (w : World) : Calls Tryd.prog 9 #[.int .i64 n] w (Ret w (.bool (okBits n))) := by
  by_cases h : n = 32
  · subst h
    go_enter Tryd.func9, Tryd.ntmps9
    go_wp2_with fail
    go_ret
    exact ⟨rfl, rfl⟩
  · go_enter Tryd.func9, Tryd.ntmps9
    go_wp2_with fail
    go_ret
    exact ⟨rfl, rfl⟩

def one (b : Bool) : Int := if b then 1 else 0
theorem is_ok (b : Bool) (w : World) : Calls Tryd.prog 17 #[.bool b] w (Ret w (.int .u64 (one b))) := by
  cases b with
  | true =>
    go_enter Tryd.func17, Tryd.ntmps17
    go_wp2_with fail
    go_ret
    exact ⟨rfl, rfl⟩
  | false =>
    go_enter Tryd.func17, Tryd.ntmps17
    go_wp2_with fail
    go_ret
    exact ⟨rfl, rfl⟩

theorem cut_range {n a : Int} (h0 : 0 ≤ a) (h1 : a < 18446744073709551616) : 0 ≤ cut n a ∧ cut n a < 18446744073709551616 := by
  unfold cut; split <;> omega
theorem divides_no (op n x y : Int) (h : op < 3 ∨ 6 < op) (w : World) : Calls Tryd.prog 19 #[.int .i64 op, .int .i64 n, .int .u64 x, .int .u64 y] w (Ret w (.int .i64 0)) := by
  by_cases h1 : op < 3
  · clear h
    go_enter Tryd.func19, Tryd.ntmps19
    go_wp2_with fail
    go_ret
    exact ⟨rfl, rfl⟩
  · have h2 : 6 < op := by omega
    clear h
    go_enter Tryd.func19, Tryd.ntmps19
    go_wp2_with fail
    go_ret
    exact ⟨rfl, rfl⟩

section bitwise
variable (n x y : Int) (w : World)
theorem bit_shl (hn : n = 32 ∨ n = 64) (hy : 0 ≤ y) (hy1 : y < 18446744073709551616) : Calls Tryd.prog 21 #[.int .i64 10, .int .i64 n, .int .u64 x, .int .u64 y] w (Ret w (.int .u64 (IntKind.u64.wrap (x * 2 ^ (y % n).toNat)))) := by
  rcases hn with rfl | rfl
  · have c1 : IntKind.u64.wrap (y % 32) = y % 32 := IntWalk.u64_in _ (by omega)
    have c2 : 0 ≤ y % 32 := by omega
    have c3 : y % 32 < 32 := by omega
    go_enter Tryd.func21, Tryd.ntmps21
    go_wp2_with fail
    go_ret
    exact ⟨rfl, rfl⟩
  · have c1 : IntKind.u64.wrap (y % 64) = y % 64 := IntWalk.u64_in _ (by omega)
    have c2 : 0 ≤ y % 64 := by omega
    have c3 : y % 64 < 64 := by omega
    go_enter Tryd.func21, Tryd.ntmps21
    go_wp2_with fail
    go_ret
    exact ⟨rfl, rfl⟩
theorem bit_shru (hn : n = 32 ∨ n = 64) (hx : 0 ≤ x) (hx1 : x < 18446744073709551616) (hy : 0 ≤ y) (hy1 : y < 18446744073709551616) : Calls Tryd.prog 21 #[.int .i64 12, .int .i64 n, .int .u64 x, .int .u64 y] w (Ret w (.int .u64 (x / 2 ^ (y % n).toNat))) := by
  rcases hn with rfl | rfl
  · have c1 : IntKind.u64.wrap (y % 32) = y % 32 := IntWalk.u64_in _ (by omega)
    have c2 : 0 ≤ y % 32 := by omega
    have c3 : y % 32 < 32 := by omega
    go_enter Tryd.func21, Tryd.ntmps21
    go_wp2_with fail
    go_ret
    exact ⟨rfl, rfl⟩
  · have c1 : IntKind.u64.wrap (y % 64) = y % 64 := IntWalk.u64_in _ (by omega)
    have c2 : 0 ≤ y % 64 := by omega
    have c3 : y % 64 < 64 := by omega
    go_enter Tryd.func21, Tryd.ntmps21
    go_wp2_with fail
    go_ret
    exact ⟨rfl, rfl⟩
end bitwise

theorem rot32_one (w : World) : Calls Tryd.prog 25 #[.int .u32 2147483648, .int .i64 1] w (Ret w (.int .u32 1)) := by
  have b1 : bits .and .u64 1 31 = 1 := by decide +kernel
  have b2 : bits .or .u32 0 1 = 1 := by decide +kernel
  go_enter Tryd.func25, Tryd.ntmps25
  go_wp2_with fail
  go_ret
  exact ⟨rfl, rfl⟩
theorem turn_one (w : World) : Calls Tryd.prog 24 #[.int .i64 32, .int .u64 2147483648, .int .i64 1] w (Ret w (.int .u64 1)) := by
  go_enter Tryd.func24, Tryd.ntmps24
  go_wp2_with fail
  refine (rot32_one _).mono ?_
  rintro e w2 ⟨rfl, rfl⟩
  go_wp2_with fail
  go_ret
  exact ⟨rfl, rfl⟩
theorem bit_one (w : World) : Calls Tryd.prog 21 #[.int .i64 13, .int .i64 32, .int .u64 2147483648, .int .u64 1] w (Ret w (.int .u64 1)) := by
  go_enter Tryd.func21, Tryd.ntmps21
  go_wp2_with fail
  refine (turn_one _).mono ?_
  rintro e w2 ⟨rfl, rfl⟩
  go_wp2_with fail
  go_ret
  exact ⟨rfl, rfl⟩
end Go.Proofs.YtphhgmeokmemlaaDoor
