/- The small functions of words: cut, sign, right, is, less, rest. Conditions: none beyond those that each theorem names. -/
import Derived.Test.YtphhgmeokmemlaaRows
import Derived.WalkKit
import Derived.WalkSpells
import Derived.WalkLawsBesides
import Derived.Handy
import Derived.Lib.Hide
import Derived.BigRegion
import Derived.BigQuiet
import Derived.Laws.BitsAllLaws
import Derived.Below
namespace Go.Proofs.Ytphhgmeokmemlaa
open Go.RowKit
set_option linter.unusedSimpArgs false
set_option linter.unusedVariables false

def cut (n a : Int) : Int := if n = 32 then a % 4294967296 else a
def sgn (n a : Int) : Int := if n = 32 then wrap32 a else wrap64 a
def okBits (n : Int) : Bool := n == 32 || n == 64
/-- a returned value, no world changed. -/
abbrev Ret (w : World) (v : Value) (e : Ending) (w' : World) : Prop := e = .returned v ∧ w = w'

theorem cut_ok (n a : Int) (h0 : 0 ≤ a) (h1 : a < 18446744073709551616) (w : World) : Calls Try.prog 12 #[.int .i64 n, .int .u64 a] w (Ret w (.int .u64 (cut n a))) := by
  have c1 : IntKind.u32.wrap a = a % 4294967296 := IntKind.wrap_u32 a
  have c2 : IntKind.u64.wrap (a % 4294967296) = a % 4294967296 := IntWalk.u64_in _ (by omega)
  by_cases h : n = 32
  · have hc : cut n a = a % 4294967296 := by simp [cut, h]
    rw [hc]
    go_enter Try.func12, Try.ntmps12
    go_wp2_with fail
    go_ret
    try rw [c1, c2]
    exact ⟨rfl, rfl⟩
  · have hc : cut n a = a := by simp [cut, h]
    rw [hc]
    go_enter Try.func12, Try.ntmps12
    go_wp2_with fail
    go_ret
    exact ⟨rfl, rfl⟩

theorem sign_ok (n a : Int) (h0 : 0 ≤ a) (h1 : a < 18446744073709551616) (w : World) : Calls Try.prog 13 #[.int .i64 n, .int .u64 a] w (Ret w (.int .i64 (sgn n a))) := by
  by_cases h : n = 32
  · have hc : sgn n a = wrap64 (wrap32 a) := by simp only [sgn, h, if_true, wrap64, wrap32]; omega
    rw [hc]
    go_enter Try.func13, Try.ntmps13
    go_wp2_with fail
    go_ret
    exact ⟨rfl, rfl⟩
  · have hc : sgn n a = wrap64 a := by simp [sgn, h]
    rw [hc]
    go_enter Try.func13, Try.ntmps13
    go_wp2_with fail
    go_ret
    exact ⟨rfl, rfl⟩

theorem right_ok (n : Int) (w : World) : Calls Try.prog 16 #[.int .i64 n] w (Ret w (.bool (okBits n))) := by
  by_cases h : n = 32
  · subst h
    go_enter Try.func16, Try.ntmps16
    go_wp2_with fail
    go_ret
    exact ⟨rfl, rfl⟩
  · go_enter Try.func16, Try.ntmps16
    go_wp2_with fail
    go_ret
    exact ⟨rfl, rfl⟩

theorem lawright_ok (n : Int) (w : World) : Calls Try.prog 9 #[.int .i64 n] w (Ret w (.bool (okBits n))) := by
  by_cases h : n = 32
  · subst h
    go_enter Try.func9, Try.ntmps9
    go_wp2_with fail
    go_ret
    exact ⟨rfl, rfl⟩
  · go_enter Try.func9, Try.ntmps9
    go_wp2_with fail
    go_ret
    exact ⟨rfl, rfl⟩

def one (b : Bool) : Int := if b then 1 else 0
theorem is_ok (b : Bool) (w : World) : Calls Try.prog 30 #[.bool b] w (Ret w (.int .u64 (one b))) := by
  cases b with
  | true =>
    go_enter Try.func30, Try.ntmps30
    go_wp2_with fail
    go_ret
    exact ⟨rfl, rfl⟩
  | false =>
    go_enter Try.func30, Try.ntmps30
    go_wp2_with fail
    go_ret
    exact ⟨rfl, rfl⟩

def lessW (signed : Bool) (n a b : Int) : Bool := if signed then decide (sgn n a < sgn n b) else decide (a < b)
theorem less_ok (signed : Bool) (n a b : Int) (h0 : 0 ≤ a) (h1 : a < 18446744073709551616) (g0 : 0 ≤ b) (g1 : b < 18446744073709551616) (w : World) :
    Calls Try.prog 31 #[.bool signed, .int .i64 n, .int .u64 a, .int .u64 b] w (Ret w (.bool (lessW signed n a b))) := by
  cases signed with
  | true =>
    have SA := Lib.hid (sign_ok n a h0 h1 w)
    have SB := Lib.hid (sign_ok n b g0 g1 w)
    go_enter Try.func31, Try.ntmps31
    go_wp2_with fail
    refine SA.out.mono ?_
    rintro e w2 ⟨rfl, rfl⟩
    go_wp2_with fail
    refine SB.out.mono ?_
    rintro e w2 ⟨rfl, rfl⟩
    go_wp2_with fail
    go_ret
    exact ⟨rfl, rfl⟩
  | false =>
    go_enter Try.func31, Try.ntmps31
    go_wp2_with fail
    go_ret
    exact ⟨rfl, rfl⟩
end Go.Proofs.Ytphhgmeokmemlaa
