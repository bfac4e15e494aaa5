/- A test of two words. -/
import Derived.Test.YtphhgmeokmemlaaW1
namespace Go.Proofs.Ytphhgmeokmemlaa
open Go.RowKit
set_option linter.unusedSimpArgs false
set_option linter.unusedVariables false

theorem cut_range {n a : Int} (h0 : 0 ≤ a) (h1 : a < 18446744073709551616) : 0 ≤ cut n a ∧ cut n a < 18446744073709551616 := by
  unfold cut; split <;> omega

def tst (op : Nat) (n x y : Int) : Bool :=
  match op with
  | 0 => x == y
  | 1 => x != y
  | 2 => lessW true n x y
  | 3 => lessW false n x y
  | 4 => lessW true n y x
  | 5 => lessW false n y x
  | 6 => !lessW true n y x
  | 7 => !lessW false n y x
  | 8 => !lessW true n x y
  | _ => !lessW false n x y

theorem test_0 (n a b : Int) (hn : okBits n = true) (h0 : 0 ≤ a) (h1 : a < 18446744073709551616) (g0 : 0 ≤ b) (g1 : b < 18446744073709551616) (w : World) :
    Calls Try.prog 14 #[.int .i64 0, .int .i64 n, .int .u64 a, .int .u64 b] w (Ret w (.tuple #[.int .u64 (one (cut n a == cut n b)), .int .i64 0])) := by
  have rx := cut_range (n := n) h0 h1
  have ry := cut_range (n := n) g0 g1
  have R := Lib.hid (right_ok n w)
  rw [hn] at R
  have CA := Lib.hid (cut_ok n a h0 h1 w)
  have CB := Lib.hid (cut_ok n b g0 g1 w)
  have I := Lib.hid (is_ok (cut n a == cut n b) w)
  generalize cut n a = x at *
  generalize cut n b = y at *
  clear hn
  go_enter Try.func14, Try.ntmps14
  go_wp2_with fail
  refine R.out.mono ?_
  rintro e w2 ⟨rfl, rfl⟩
  go_wp2_with fail
  refine CA.out.mono ?_
  rintro e w2 ⟨rfl, rfl⟩
  go_wp2_with fail
  refine CB.out.mono ?_
  rintro e w2 ⟨rfl, rfl⟩
  go_wp2_with fail
  refine I.out.mono ?_
  rintro e w2 ⟨rfl, rfl⟩
  go_wp2_with fail
  go_ret2
  exact ⟨rfl, rfl⟩

theorem test_1 (n a b : Int) (hn : okBits n = true) (h0 : 0 ≤ a) (h1 : a < 18446744073709551616) (g0 : 0 ≤ b) (g1 : b < 18446744073709551616) (w : World) :
    Calls Try.prog 14 #[.int .i64 1, .int .i64 n, .int .u64 a, .int .u64 b] w (Ret w (.tuple #[.int .u64 (one (cut n a != cut n b)), .int .i64 0])) := by
  have rx := cut_range (n := n) h0 h1
  have ry := cut_range (n := n) g0 g1
  have R := Lib.hid (right_ok n w)
  rw [hn] at R
  have CA := Lib.hid (cut_ok n a h0 h1 w)
  have CB := Lib.hid (cut_ok n b g0 g1 w)
  have I := Lib.hid (is_ok (cut n a != cut n b) w)
  generalize cut n a = x at *
  generalize cut n b = y at *
  clear hn
  go_enter Try.func14, Try.ntmps14
  go_wp2_with fail
  refine R.out.mono ?_
  rintro e w2 ⟨rfl, rfl⟩
  go_wp2_with fail
  refine CA.out.mono ?_
  rintro e w2 ⟨rfl, rfl⟩
  go_wp2_with fail
  refine CB.out.mono ?_
  rintro e w2 ⟨rfl, rfl⟩
  go_wp2_with fail
  refine I.out.mono ?_
  rintro e w2 ⟨rfl, rfl⟩
  go_wp2_with fail
  go_ret2
  exact ⟨rfl, rfl⟩

theorem test_2 (n a b : Int) (hn : okBits n = true) (h0 : 0 ≤ a) (h1 : a < 18446744073709551616) (g0 : 0 ≤ b) (g1 : b < 18446744073709551616) (w : World) :
    Calls Try.prog 14 #[.int .i64 2, .int .i64 n, .int .u64 a, .int .u64 b] w (Ret w (.tuple #[.int .u64 (one (lessW true n (cut n a) (cut n b))), .int .i64 0])) := by
  have rx := cut_range (n := n) h0 h1
  have ry := cut_range (n := n) g0 g1
  have R := Lib.hid (right_ok n w)
  rw [hn] at R
  have CA := Lib.hid (cut_ok n a h0 h1 w)
  have CB := Lib.hid (cut_ok n b g0 g1 w)
  have L := Lib.hid (less_ok true n (cut n a) (cut n b) rx.1 rx.2 ry.1 ry.2 w)
  have I := Lib.hid (is_ok (lessW true n (cut n a) (cut n b)) w)
  generalize cut n a = x at *
  generalize cut n b = y at *
  clear hn
  generalize lessW true n x y = z at *
  go_enter Try.func14, Try.ntmps14
  go_wp2_with fail
  refine R.out.mono ?_
  rintro e w2 ⟨rfl, rfl⟩
  go_wp2_with fail
  refine CA.out.mono ?_
  rintro e w2 ⟨rfl, rfl⟩
  go_wp2_with fail
  refine CB.out.mono ?_
  rintro e w2 ⟨rfl, rfl⟩
  go_wp2_with fail
  refine L.out.mono ?_
  rintro e w2 ⟨rfl, rfl⟩
  go_wp2_with fail
  refine I.out.mono ?_
  rintro e w2 ⟨rfl, rfl⟩
  go_wp2_with fail
  go_ret2
  exact ⟨rfl, rfl⟩

theorem test_3 (n a b : Int) (hn : okBits n = true) (h0 : 0 ≤ a) (h1 : a < 18446744073709551616) (g0 : 0 ≤ b) (g1 : b < 18446744073709551616) (w : World) :
    Calls Try.prog 14 #[.int .i64 3, .int .i64 n, .int .u64 a, .int .u64 b] w (Ret w (.tuple #[.int .u64 (one (lessW false n (cut n a) (cut n b))), .int .i64 0])) := by
  have rx := cut_range (n := n) h0 h1
  have ry := cut_range (n := n) g0 g1
  have R := Lib.hid (right_ok n w)
  rw [hn] at R
  have CA := Lib.hid (cut_ok n a h0 h1 w)
  have CB := Lib.hid (cut_ok n b g0 g1 w)
  have L := Lib.hid (less_ok false n (cut n a) (cut n b) rx.1 rx.2 ry.1 ry.2 w)
  have I := Lib.hid (is_ok (lessW false n (cut n a) (cut n b)) w)
  generalize cut n a = x at *
  generalize cut n b = y at *
  clear hn
  generalize lessW false n x y = z at *
  go_enter Try.func14, Try.ntmps14
  go_wp2_with fail
  refine R.out.mono ?_
  rintro e w2 ⟨rfl, rfl⟩
  go_wp2_with fail
  refine CA.out.mono ?_
  rintro e w2 ⟨rfl, rfl⟩
  go_wp2_with fail
  refine CB.out.mono ?_
  rintro e w2 ⟨rfl, rfl⟩
  go_wp2_with fail
  refine L.out.mono ?_
  rintro e w2 ⟨rfl, rfl⟩
  go_wp2_with fail
  refine I.out.mono ?_
  rintro e w2 ⟨rfl, rfl⟩
  go_wp2_with fail
  go_ret2
  exact ⟨rfl, rfl⟩

theorem test_4 (n a b : Int) (hn : okBits n = true) (h0 : 0 ≤ a) (h1 : a < 18446744073709551616) (g0 : 0 ≤ b) (g1 : b < 18446744073709551616) (w : World) :
    Calls Try.prog 14 #[.int .i64 4, .int .i64 n, .int .u64 a, .int .u64 b] w (Ret w (.tuple #[.int .u64 (one (lessW true n (cut n b) (cut n a))), .int .i64 0])) := by
  have rx := cut_range (n := n) h0 h1
  have ry := cut_range (n := n) g0 g1
  have R := Lib.hid (right_ok n w)
  rw [hn] at R
  have CA := Lib.hid (cut_ok n a h0 h1 w)
  have CB := Lib.hid (cut_ok n b g0 g1 w)
  have L := Lib.hid (less_ok true n (cut n b) (cut n a) ry.1 ry.2 rx.1 rx.2 w)
  have I := Lib.hid (is_ok (lessW true n (cut n b) (cut n a)) w)
  generalize cut n a = x at *
  generalize cut n b = y at *
  clear hn
  generalize lessW true n y x = z at *
  go_enter Try.func14, Try.ntmps14
  go_wp2_with fail
  refine R.out.mono ?_
  rintro e w2 ⟨rfl, rfl⟩
  go_wp2_with fail
  refine CA.out.mono ?_
  rintro e w2 ⟨rfl, rfl⟩
  go_wp2_with fail
  refine CB.out.mono ?_
  rintro e w2 ⟨rfl, rfl⟩
  go_wp2_with fail
  refine L.out.mono ?_
  rintro e w2 ⟨rfl, rfl⟩
  go_wp2_with fail
  refine I.out.mono ?_
  rintro e w2 ⟨rfl, rfl⟩
  go_wp2_with fail
  go_ret2
  exact ⟨rfl, rfl⟩

theorem test_5 (n a b : Int) (hn : okBits n = true) (h0 : 0 ≤ a) (h1 : a < 18446744073709551616) (g0 : 0 ≤ b) (g1 : b < 18446744073709551616) (w : World) :
    Calls Try.prog 14 #[.int .i64 5, .int .i64 n, .int .u64 a, .int .u64 b] w (Ret w (.tuple #[.int .u64 (one (lessW false n (cut n b) (cut n a))), .int .i64 0])) := by
  have rx := cut_range (n := n) h0 h1
  have ry := cut_range (n := n) g0 g1
  have R := Lib.hid (right_ok n w)
  rw [hn] at R
  have CA := Lib.hid (cut_ok n a h0 h1 w)
  have CB := Lib.hid (cut_ok n b g0 g1 w)
  have L := Lib.hid (less_ok false n (cut n b) (cut n a) ry.1 ry.2 rx.1 rx.2 w)
  have I := Lib.hid (is_ok (lessW false n (cut n b) (cut n a)) w)
  generalize cut n a = x at *
  generalize cut n b = y at *
  clear hn
  generalize lessW false n y x = z at *
  go_enter Try.func14, Try.ntmps14
  go_wp2_with fail
  refine R.out.mono ?_
  rintro e w2 ⟨rfl, rfl⟩
  go_wp2_with fail
  refine CA.out.mono ?_
  rintro e w2 ⟨rfl, rfl⟩
  go_wp2_with fail
  refine CB.out.mono ?_
  rintro e w2 ⟨rfl, rfl⟩
  go_wp2_with fail
  refine L.out.mono ?_
  rintro e w2 ⟨rfl, rfl⟩
  go_wp2_with fail
  refine I.out.mono ?_
  rintro e w2 ⟨rfl, rfl⟩
  go_wp2_with fail
  go_ret2
  exact ⟨rfl, rfl⟩

theorem test_6 (n a b : Int) (hn : okBits n = true) (h0 : 0 ≤ a) (h1 : a < 18446744073709551616) (g0 : 0 ≤ b) (g1 : b < 18446744073709551616) (w : World) :
    Calls Try.prog 14 #[.int .i64 6, .int .i64 n, .int .u64 a, .int .u64 b] w (Ret w (.tuple #[.int .u64 (one (!(lessW true n (cut n b) (cut n a)))), .int .i64 0])) := by
  have rx := cut_range (n := n) h0 h1
  have ry := cut_range (n := n) g0 g1
  have R := Lib.hid (right_ok n w)
  rw [hn] at R
  have CA := Lib.hid (cut_ok n a h0 h1 w)
  have CB := Lib.hid (cut_ok n b g0 g1 w)
  have L := Lib.hid (less_ok true n (cut n b) (cut n a) ry.1 ry.2 rx.1 rx.2 w)
  have I := Lib.hid (is_ok (!(lessW true n (cut n b) (cut n a))) w)
  generalize cut n a = x at *
  generalize cut n b = y at *
  clear hn
  generalize lessW true n y x = z at *
  go_enter Try.func14, Try.ntmps14
  go_wp2_with fail
  refine R.out.mono ?_
  rintro e w2 ⟨rfl, rfl⟩
  go_wp2_with fail
  refine CA.out.mono ?_
  rintro e w2 ⟨rfl, rfl⟩
  go_wp2_with fail
  refine CB.out.mono ?_
  rintro e w2 ⟨rfl, rfl⟩
  go_wp2_with fail
  refine L.out.mono ?_
  rintro e w2 ⟨rfl, rfl⟩
  go_wp2_with fail
  refine I.out.mono ?_
  rintro e w2 ⟨rfl, rfl⟩
  go_wp2_with fail
  go_ret2
  exact ⟨rfl, rfl⟩

theorem test_7 (n a b : Int) (hn : okBits n = true) (h0 : 0 ≤ a) (h1 : a < 18446744073709551616) (g0 : 0 ≤ b) (g1 : b < 18446744073709551616) (w : World) :
    Calls Try.prog 14 #[.int .i64 7, .int .i64 n, .int .u64 a, .int .u64 b] w (Ret w (.tuple #[.int .u64 (one (!(lessW false n (cut n b) (cut n a)))), .int .i64 0])) := by
  have rx := cut_range (n := n) h0 h1
  have ry := cut_range (n := n) g0 g1
  have R := Lib.hid (right_ok n w)
  rw [hn] at R
  have CA := Lib.hid (cut_ok n a h0 h1 w)
  have CB := Lib.hid (cut_ok n b g0 g1 w)
  have L := Lib.hid (less_ok false n (cut n b) (cut n a) ry.1 ry.2 rx.1 rx.2 w)
  have I := Lib.hid (is_ok (!(lessW false n (cut n b) (cut n a))) w)
  generalize cut n a = x at *
  generalize cut n b = y at *
  clear hn
  generalize lessW false n y x = z at *
  go_enter Try.func14, Try.ntmps14
  go_wp2_with fail
  refine R.out.mono ?_
  rintro e w2 ⟨rfl, rfl⟩
  go_wp2_with fail
  refine CA.out.mono ?_
  rintro e w2 ⟨rfl, rfl⟩
  go_wp2_with fail
  refine CB.out.mono ?_
  rintro e w2 ⟨rfl, rfl⟩
  go_wp2_with fail
  refine L.out.mono ?_
  rintro e w2 ⟨rfl, rfl⟩
  go_wp2_with fail
  refine I.out.mono ?_
  rintro e w2 ⟨rfl, rfl⟩
  go_wp2_with fail
  go_ret2
  exact ⟨rfl, rfl⟩

theorem test_8 (n a b : Int) (hn : okBits n = true) (h0 : 0 ≤ a) (h1 : a < 18446744073709551616) (g0 : 0 ≤ b) (g1 : b < 18446744073709551616) (w : World) :
    Calls Try.prog 14 #[.int .i64 8, .int .i64 n, .int .u64 a, .int .u64 b] w (Ret w (.tuple #[.int .u64 (one (!(lessW true n (cut n a) (cut n b)))), .int .i64 0])) := by
  have rx := cut_range (n := n) h0 h1
  have ry := cut_range (n := n) g0 g1
  have R := Lib.hid (right_ok n w)
  rw [hn] at R
  have CA := Lib.hid (cut_ok n a h0 h1 w)
  have CB := Lib.hid (cut_ok n b g0 g1 w)
  have L := Lib.hid (less_ok true n (cut n a) (cut n b) rx.1 rx.2 ry.1 ry.2 w)
  have I := Lib.hid (is_ok (!(lessW true n (cut n a) (cut n b))) w)
  generalize cut n a = x at *
  generalize cut n b = y at *
  clear hn
  generalize lessW true n x y = z at *
  go_enter Try.func14, Try.ntmps14
  go_wp2_with fail
  refine R.out.mono ?_
  rintro e w2 ⟨rfl, rfl⟩
  go_wp2_with fail
  refine CA.out.mono ?_
  rintro e w2 ⟨rfl, rfl⟩
  go_wp2_with fail
  refine CB.out.mono ?_
  rintro e w2 ⟨rfl, rfl⟩
  go_wp2_with fail
  refine L.out.mono ?_
  rintro e w2 ⟨rfl, rfl⟩
  go_wp2_with fail
  refine I.out.mono ?_
  rintro e w2 ⟨rfl, rfl⟩
  go_wp2_with fail
  go_ret2
  exact ⟨rfl, rfl⟩

theorem test_9 (n a b : Int) (hn : okBits n = true) (h0 : 0 ≤ a) (h1 : a < 18446744073709551616) (g0 : 0 ≤ b) (g1 : b < 18446744073709551616) (w : World) :
    Calls Try.prog 14 #[.int .i64 9, .int .i64 n, .int .u64 a, .int .u64 b] w (Ret w (.tuple #[.int .u64 (one (!(lessW false n (cut n a) (cut n b)))), .int .i64 0])) := by
  have rx := cut_range (n := n) h0 h1
  have ry := cut_range (n := n) g0 g1
  have R := Lib.hid (right_ok n w)
  rw [hn] at R
  have CA := Lib.hid (cut_ok n a h0 h1 w)
  have CB := Lib.hid (cut_ok n b g0 g1 w)
  have L := Lib.hid (less_ok false n (cut n a) (cut n b) rx.1 rx.2 ry.1 ry.2 w)
  have I := Lib.hid (is_ok (!(lessW false n (cut n a) (cut n b))) w)
  generalize cut n a = x at *
  generalize cut n b = y at *
  clear hn
  generalize lessW false n x y = z at *
  go_enter Try.func14, Try.ntmps14
  go_wp2_with fail
  refine R.out.mono ?_
  rintro e w2 ⟨rfl, rfl⟩
  go_wp2_with fail
  refine CA.out.mono ?_
  rintro e w2 ⟨rfl, rfl⟩
  go_wp2_with fail
  refine CB.out.mono ?_
  rintro e w2 ⟨rfl, rfl⟩
  go_wp2_with fail
  refine L.out.mono ?_
  rintro e w2 ⟨rfl, rfl⟩
  go_wp2_with fail
  refine I.out.mono ?_
  rintro e w2 ⟨rfl, rfl⟩
  go_wp2_with fail
  go_ret2
  exact ⟨rfl, rfl⟩

theorem test_ok (op : Nat) (ho : op < 10) (n a b : Int) (hn : okBits n = true) (h0 : 0 ≤ a) (h1 : a < 18446744073709551616) (g0 : 0 ≤ b) (g1 : b < 18446744073709551616) (w : World) :
    Calls Try.prog 14 #[.int .i64 (op : Int), .int .i64 n, .int .u64 a, .int .u64 b] w (Ret w (.tuple #[.int .u64 (one (tst op n (cut n a) (cut n b))), .int .i64 0])) := by
  match op, ho with
  | 0, _ => exact test_0 n a b hn h0 h1 g0 g1 w
  | 1, _ => exact test_1 n a b hn h0 h1 g0 g1 w
  | 2, _ => exact test_2 n a b hn h0 h1 g0 g1 w
  | 3, _ => exact test_3 n a b hn h0 h1 g0 g1 w
  | 4, _ => exact test_4 n a b hn h0 h1 g0 g1 w
  | 5, _ => exact test_5 n a b hn h0 h1 g0 g1 w
  | 6, _ => exact test_6 n a b hn h0 h1 g0 g1 w
  | 7, _ => exact test_7 n a b hn h0 h1 g0 g1 w
  | 8, _ => exact test_8 n a b hn h0 h1 g0 g1 w
  | 9, _ => exact test_9 n a b hn h0 h1 g0 g1 w

theorem test_bad (op n a b : Int) (h : okBits n = false ∨ op < 0 ∨ 9 < op) (w : World) :
    Calls Try.prog 14 #[.int .i64 op, .int .i64 n, .int .u64 a, .int .u64 b] w (Ret w (.tuple #[.int .u64 0, .int .i64 1])) := by
  have R := Lib.hid (right_ok n w)
  cases hn : okBits n with
  | false =>
    rw [hn] at R
    go_enter Try.func14, Try.ntmps14
    go_wp2_with fail
    refine R.out.mono ?_
    rintro e w2 ⟨rfl, rfl⟩
    go_wp2_with fail
    go_ret2
    exact ⟨rfl, rfl⟩
  | true =>
    rw [hn] at R h
    by_cases h1 : op < 0
    · clear h
      go_enter Try.func14, Try.ntmps14
      go_wp2_with fail
      refine R.out.mono ?_
      rintro e w2 ⟨rfl, rfl⟩
      go_wp2_with fail
      go_ret2
      exact ⟨rfl, rfl⟩
    · have h2 : 9 < op := by
        rcases h with h | h | h
        · cases h
        · exact absurd h h1
        · exact h
      clear h
      go_enter Try.func14, Try.ntmps14
      go_wp2_with fail
      refine R.out.mono ?_
      rintro e w2 ⟨rfl, rfl⟩
      go_wp2_with fail
      go_ret2
      exact ⟨rfl, rfl⟩
end Go.Proofs.Ytphhgmeokmemlaa
