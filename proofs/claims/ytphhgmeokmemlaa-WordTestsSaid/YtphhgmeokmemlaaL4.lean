/- The document's tests; the law of tests. -/
import Derived.Test.YtphhgmeokmemlaaL3
namespace Go.Proofs.Ytphhgmeokmemlaa
open Go.RowKit Go.Maps
set_option linter.unusedSimpArgs false
set_option linter.unusedVariables false

variable {w w' : World}

set_option maxRecDepth 100000 in
set_option maxHeartbeats 1000000 in
theorem rtest_0 (n x y : Nat) (h0 : 0 < n) (hn : n ≤ 64) (hx : x < 18446744073709551616) (hy : y < 18446744073709551616) (sm ab ba : Bool) (hs : (x % 2 ^ n == y % 2 ^ n) = sm) (hab : lessN true n x y = ab) (hba : lessN true n y x = ba) (w : World) :
    Calls Try.prog 15 #[.int .i64 0, .int .i64 n, .int .u64 x, .int .u64 y] w (RetT w (.int .u64 (one (sm)))) := by
  have LX := Lib.hid (list_ok n x h0 hn hx)
  have LY := Lib.hid (list_ok n y h0 hn hy)
  have L1 := less2_ok true n x y h0 hn hx hy
  have L2 := less2_ok true n y x h0 hn hy hx
  rw [hab] at L1
  rw [hba] at L2
  have H1 := Lib.hid L1
  have H2 := Lib.hid L2
  have WX := Lib.hid (fun (w : World) (v : Value) (B : Nat) (hv : Bits w v (lst n x) B) => word_ok (w := w) (lst n x) (by rw [lst_length]; exact hn) hv)
  have WY := Lib.hid (fun (w : World) (v : Value) (B : Nat) (hv : Bits w v (lst n y) B) => word_ok (w := w) (lst n y) (by rw [lst_length]; exact hn) hv)
  rw [wd_lst] at WX WY
  have hs2 : (((x % 2 ^ n : Nat) : Int) == ((y % 2 ^ n : Nat) : Int)) = sm := by
    rw [← hs, Bool.eq_iff_iff, beq_iff_eq, beq_iff_eq]; omega
  generalize x % 2 ^ n = X at *
  generalize y % 2 ^ n = Y at *
  clear hs hab hba L1 L2
  go_enter Try.func15, Try.ntmps15
  go_wp2_with fail
  refine (LX.out _).mono ?_
  rintro e w2 ⟨v, rfl, b2, t2⟩
  go_wp2_with fail
  refine (WX.out _ _ _ b2).mono ?_
  rintro e w3 ⟨rfl, rfl⟩
  clear b2
  go_wp2_with fail
  refine (LY.out _).mono ?_
  rintro e w3 ⟨u, rfl, b3, t3⟩
  have t := t2.trans t3
  clear t2 t3
  go_wp2_with fail
  refine (WY.out _ _ _ b3).mono ?_
  rintro e w4 ⟨rfl, rfl⟩
  clear b3 LX LY WX WY
  go_wp2_with fail
  refine (H1.out _).mono ?_
  rintro e w4 ⟨rfl, t4⟩
  go_wp2_with fail
  refine (H2.out _).mono ?_
  rintro e w5 ⟨rfl, t5⟩
  have t' := t.trans (t4.trans t5)
  clear t t4 t5 H1 H2 hx hy
  go_wp2_with fail
  all_goals
    rename_i hv
    go_ret
    rw [show (sm) = _ from by first | exact hv | simpa using hv]
    exact ⟨rfl, t'.trans (Touch.alloc _ _ _)⟩

set_option maxRecDepth 100000 in
set_option maxHeartbeats 1000000 in
theorem rtest_1 (n x y : Nat) (h0 : 0 < n) (hn : n ≤ 64) (hx : x < 18446744073709551616) (hy : y < 18446744073709551616) (sm ab ba : Bool) (hs : (x % 2 ^ n == y % 2 ^ n) = sm) (hab : lessN false n x y = ab) (hba : lessN false n y x = ba) (w : World) :
    Calls Try.prog 15 #[.int .i64 1, .int .i64 n, .int .u64 x, .int .u64 y] w (RetT w (.int .u64 (one (!sm)))) := by
  have LX := Lib.hid (list_ok n x h0 hn hx)
  have LY := Lib.hid (list_ok n y h0 hn hy)
  have L1 := less2_ok false n x y h0 hn hx hy
  have L2 := less2_ok false n y x h0 hn hy hx
  rw [hab] at L1
  rw [hba] at L2
  have H1 := Lib.hid L1
  have H2 := Lib.hid L2
  have WX := Lib.hid (fun (w : World) (v : Value) (B : Nat) (hv : Bits w v (lst n x) B) => word_ok (w := w) (lst n x) (by rw [lst_length]; exact hn) hv)
  have WY := Lib.hid (fun (w : World) (v : Value) (B : Nat) (hv : Bits w v (lst n y) B) => word_ok (w := w) (lst n y) (by rw [lst_length]; exact hn) hv)
  rw [wd_lst] at WX WY
  have hs2 : (((x % 2 ^ n : Nat) : Int) == ((y % 2 ^ n : Nat) : Int)) = sm := by
    rw [← hs, Bool.eq_iff_iff, beq_iff_eq, beq_iff_eq]; omega
  generalize x % 2 ^ n = X at *
  generalize y % 2 ^ n = Y at *
  clear hs hab hba L1 L2
  go_enter Try.func15, Try.ntmps15
  go_wp2_with fail
  refine (LX.out _).mono ?_
  rintro e w2 ⟨v, rfl, b2, t2⟩
  go_wp2_with fail
  refine (WX.out _ _ _ b2).mono ?_
  rintro e w3 ⟨rfl, rfl⟩
  clear b2
  go_wp2_with fail
  refine (LY.out _).mono ?_
  rintro e w3 ⟨u, rfl, b3, t3⟩
  have t := t2.trans t3
  clear t2 t3
  go_wp2_with fail
  refine (WY.out _ _ _ b3).mono ?_
  rintro e w4 ⟨rfl, rfl⟩
  clear b3 LX LY WX WY
  go_wp2_with fail
  refine (H1.out _).mono ?_
  rintro e w4 ⟨rfl, t4⟩
  go_wp2_with fail
  refine (H2.out _).mono ?_
  rintro e w5 ⟨rfl, t5⟩
  have t' := t.trans (t4.trans t5)
  clear t t4 t5 H1 H2 hx hy
  go_wp2_with fail
  all_goals
    rename_i hv
    go_ret
    rw [show (!sm) = _ from by first | exact hv | simpa using hv]
    exact ⟨rfl, t'.trans (Touch.alloc _ _ _)⟩

set_option maxRecDepth 100000 in
set_option maxHeartbeats 1000000 in
theorem rtest_2 (n x y : Nat) (h0 : 0 < n) (hn : n ≤ 64) (hx : x < 18446744073709551616) (hy : y < 18446744073709551616) (sm ab ba : Bool) (hs : (x % 2 ^ n == y % 2 ^ n) = sm) (hab : lessN true n x y = ab) (hba : lessN true n y x = ba) (w : World) :
    Calls Try.prog 15 #[.int .i64 2, .int .i64 n, .int .u64 x, .int .u64 y] w (RetT w (.int .u64 (one (ab)))) := by
  have LX := Lib.hid (list_ok n x h0 hn hx)
  have LY := Lib.hid (list_ok n y h0 hn hy)
  have L1 := less2_ok true n x y h0 hn hx hy
  have L2 := less2_ok true n y x h0 hn hy hx
  rw [hab] at L1
  rw [hba] at L2
  have H1 := Lib.hid L1
  have H2 := Lib.hid L2
  have WX := Lib.hid (fun (w : World) (v : Value) (B : Nat) (hv : Bits w v (lst n x) B) => word_ok (w := w) (lst n x) (by rw [lst_length]; exact hn) hv)
  have WY := Lib.hid (fun (w : World) (v : Value) (B : Nat) (hv : Bits w v (lst n y) B) => word_ok (w := w) (lst n y) (by rw [lst_length]; exact hn) hv)
  rw [wd_lst] at WX WY
  have hs2 : (((x % 2 ^ n : Nat) : Int) == ((y % 2 ^ n : Nat) : Int)) = sm := by
    rw [← hs, Bool.eq_iff_iff, beq_iff_eq, beq_iff_eq]; omega
  generalize x % 2 ^ n = X at *
  generalize y % 2 ^ n = Y at *
  clear hs hab hba L1 L2
  go_enter Try.func15, Try.ntmps15
  go_wp2_with fail
  refine (LX.out _).mono ?_
  rintro e w2 ⟨v, rfl, b2, t2⟩
  go_wp2_with fail
  refine (WX.out _ _ _ b2).mono ?_
  rintro e w3 ⟨rfl, rfl⟩
  clear b2
  go_wp2_with fail
  refine (LY.out _).mono ?_
  rintro e w3 ⟨u, rfl, b3, t3⟩
  have t := t2.trans t3
  clear t2 t3
  go_wp2_with fail
  refine (WY.out _ _ _ b3).mono ?_
  rintro e w4 ⟨rfl, rfl⟩
  clear b3 LX LY WX WY
  go_wp2_with fail
  refine (H1.out _).mono ?_
  rintro e w4 ⟨rfl, t4⟩
  go_wp2_with fail
  refine (H2.out _).mono ?_
  rintro e w5 ⟨rfl, t5⟩
  have t' := t.trans (t4.trans t5)
  clear t t4 t5 H1 H2 hx hy
  go_wp2_with fail
  all_goals
    rename_i hv
    go_ret
    rw [show (ab) = _ from by first | exact hv | simpa using hv]
    exact ⟨rfl, t'.trans (Touch.alloc _ _ _)⟩

set_option maxRecDepth 100000 in
set_option maxHeartbeats 1000000 in
theorem rtest_3 (n x y : Nat) (h0 : 0 < n) (hn : n ≤ 64) (hx : x < 18446744073709551616) (hy : y < 18446744073709551616) (sm ab ba : Bool) (hs : (x % 2 ^ n == y % 2 ^ n) = sm) (hab : lessN false n x y = ab) (hba : lessN false n y x = ba) (w : World) :
    Calls Try.prog 15 #[.int .i64 3, .int .i64 n, .int .u64 x, .int .u64 y] w (RetT w (.int .u64 (one (ab)))) := by
  have LX := Lib.hid (list_ok n x h0 hn hx)
  have LY := Lib.hid (list_ok n y h0 hn hy)
  have L1 := less2_ok false n x y h0 hn hx hy
  have L2 := less2_ok false n y x h0 hn hy hx
  rw [hab] at L1
  rw [hba] at L2
  have H1 := Lib.hid L1
  have H2 := Lib.hid L2
  have WX := Lib.hid (fun (w : World) (v : Value) (B : Nat) (hv : Bits w v (lst n x) B) => word_ok (w := w) (lst n x) (by rw [lst_length]; exact hn) hv)
  have WY := Lib.hid (fun (w : World) (v : Value) (B : Nat) (hv : Bits w v (lst n y) B) => word_ok (w := w) (lst n y) (by rw [lst_length]; exact hn) hv)
  rw [wd_lst] at WX WY
  have hs2 : (((x % 2 ^ n : Nat) : Int) == ((y % 2 ^ n : Nat) : Int)) = sm := by
    rw [← hs, Bool.eq_iff_iff, beq_iff_eq, beq_iff_eq]; omega
  generalize x % 2 ^ n = X at *
  generalize y % 2 ^ n = Y at *
  clear hs hab hba L1 L2
  go_enter Try.func15, Try.ntmps15
  go_wp2_with fail
  refine (LX.out _).mono ?_
  rintro e w2 ⟨v, rfl, b2, t2⟩
  go_wp2_with fail
  refine (WX.out _ _ _ b2).mono ?_
  rintro e w3 ⟨rfl, rfl⟩
  clear b2
  go_wp2_with fail
  refine (LY.out _).mono ?_
  rintro e w3 ⟨u, rfl, b3, t3⟩
  have t := t2.trans t3
  clear t2 t3
  go_wp2_with fail
  refine (WY.out _ _ _ b3).mono ?_
  rintro e w4 ⟨rfl, rfl⟩
  clear b3 LX LY WX WY
  go_wp2_with fail
  refine (H1.out _).mono ?_
  rintro e w4 ⟨rfl, t4⟩
  go_wp2_with fail
  refine (H2.out _).mono ?_
  rintro e w5 ⟨rfl, t5⟩
  have t' := t.trans (t4.trans t5)
  clear t t4 t5 H1 H2 hx hy
  go_wp2_with fail
  all_goals
    rename_i hv
    go_ret
    rw [show (ab) = _ from by first | exact hv | simpa using hv]
    exact ⟨rfl, t'.trans (Touch.alloc _ _ _)⟩

set_option maxRecDepth 100000 in
set_option maxHeartbeats 1000000 in
theorem rtest_4 (n x y : Nat) (h0 : 0 < n) (hn : n ≤ 64) (hx : x < 18446744073709551616) (hy : y < 18446744073709551616) (sm ab ba : Bool) (hs : (x % 2 ^ n == y % 2 ^ n) = sm) (hab : lessN true n x y = ab) (hba : lessN true n y x = ba) (w : World) :
    Calls Try.prog 15 #[.int .i64 4, .int .i64 n, .int .u64 x, .int .u64 y] w (RetT w (.int .u64 (one (ba)))) := by
  have LX := Lib.hid (list_ok n x h0 hn hx)
  have LY := Lib.hid (list_ok n y h0 hn hy)
  have L1 := less2_ok true n x y h0 hn hx hy
  have L2 := less2_ok true n y x h0 hn hy hx
  rw [hab] at L1
  rw [hba] at L2
  have H1 := Lib.hid L1
  have H2 := Lib.hid L2
  have WX := Lib.hid (fun (w : World) (v : Value) (B : Nat) (hv : Bits w v (lst n x) B) => word_ok (w := w) (lst n x) (by rw [lst_length]; exact hn) hv)
  have WY := Lib.hid (fun (w : World) (v : Value) (B : Nat) (hv : Bits w v (lst n y) B) => word_ok (w := w) (lst n y) (by rw [lst_length]; exact hn) hv)
  rw [wd_lst] at WX WY
  have hs2 : (((x % 2 ^ n : Nat) : Int) == ((y % 2 ^ n : Nat) : Int)) = sm := by
    rw [← hs, Bool.eq_iff_iff, beq_iff_eq, beq_iff_eq]; omega
  generalize x % 2 ^ n = X at *
  generalize y % 2 ^ n = Y at *
  clear hs hab hba L1 L2
  go_enter Try.func15, Try.ntmps15
  go_wp2_with fail
  refine (LX.out _).mono ?_
  rintro e w2 ⟨v, rfl, b2, t2⟩
  go_wp2_with fail
  refine (WX.out _ _ _ b2).mono ?_
  rintro e w3 ⟨rfl, rfl⟩
  clear b2
  go_wp2_with fail
  refine (LY.out _).mono ?_
  rintro e w3 ⟨u, rfl, b3, t3⟩
  have t := t2.trans t3
  clear t2 t3
  go_wp2_with fail
  refine (WY.out _ _ _ b3).mono ?_
  rintro e w4 ⟨rfl, rfl⟩
  clear b3 LX LY WX WY
  go_wp2_with fail
  refine (H1.out _).mono ?_
  rintro e w4 ⟨rfl, t4⟩
  go_wp2_with fail
  refine (H2.out _).mono ?_
  rintro e w5 ⟨rfl, t5⟩
  have t' := t.trans (t4.trans t5)
  clear t t4 t5 H1 H2 hx hy
  go_wp2_with fail
  all_goals
    rename_i hv
    go_ret
    rw [show (ba) = _ from by first | exact hv | simpa using hv]
    exact ⟨rfl, t'.trans (Touch.alloc _ _ _)⟩

set_option maxRecDepth 100000 in
set_option maxHeartbeats 1000000 in
theorem rtest_5 (n x y : Nat) (h0 : 0 < n) (hn : n ≤ 64) (hx : x < 18446744073709551616) (hy : y < 18446744073709551616) (sm ab ba : Bool) (hs : (x % 2 ^ n == y % 2 ^ n) = sm) (hab : lessN false n x y = ab) (hba : lessN false n y x = ba) (w : World) :
    Calls Try.prog 15 #[.int .i64 5, .int .i64 n, .int .u64 x, .int .u64 y] w (RetT w (.int .u64 (one (ba)))) := by
  have LX := Lib.hid (list_ok n x h0 hn hx)
  have LY := Lib.hid (list_ok n y h0 hn hy)
  have L1 := less2_ok false n x y h0 hn hx hy
  have L2 := less2_ok false n y x h0 hn hy hx
  rw [hab] at L1
  rw [hba] at L2
  have H1 := Lib.hid L1
  have H2 := Lib.hid L2
  have WX := Lib.hid (fun (w : World) (v : Value) (B : Nat) (hv : Bits w v (lst n x) B) => word_ok (w := w) (lst n x) (by rw [lst_length]; exact hn) hv)
  have WY := Lib.hid (fun (w : World) (v : Value) (B : Nat) (hv : Bits w v (lst n y) B) => word_ok (w := w) (lst n y) (by rw [lst_length]; exact hn) hv)
  rw [wd_lst] at WX WY
  have hs2 : (((x % 2 ^ n : Nat) : Int) == ((y % 2 ^ n : Nat) : Int)) = sm := by
    rw [← hs, Bool.eq_iff_iff, beq_iff_eq, beq_iff_eq]; omega
  generalize x % 2 ^ n = X at *
  generalize y % 2 ^ n = Y at *
  clear hs hab hba L1 L2
  go_enter Try.func15, Try.ntmps15
  go_wp2_with fail
  refine (LX.out _).mono ?_
  rintro e w2 ⟨v, rfl, b2, t2⟩
  go_wp2_with fail
  refine (WX.out _ _ _ b2).mono ?_
  rintro e w3 ⟨rfl, rfl⟩
  clear b2
  go_wp2_with fail
  refine (LY.out _).mono ?_
  rintro e w3 ⟨u, rfl, b3, t3⟩
  have t := t2.trans t3
  clear t2 t3
  go_wp2_with fail
  refine (WY.out _ _ _ b3).mono ?_
  rintro e w4 ⟨rfl, rfl⟩
  clear b3 LX LY WX WY
  go_wp2_with fail
  refine (H1.out _).mono ?_
  rintro e w4 ⟨rfl, t4⟩
  go_wp2_with fail
  refine (H2.out _).mono ?_
  rintro e w5 ⟨rfl, t5⟩
  have t' := t.trans (t4.trans t5)
  clear t t4 t5 H1 H2 hx hy
  go_wp2_with fail
  all_goals
    rename_i hv
    go_ret
    rw [show (ba) = _ from by first | exact hv | simpa using hv]
    exact ⟨rfl, t'.trans (Touch.alloc _ _ _)⟩

set_option maxRecDepth 100000 in
set_option maxHeartbeats 1000000 in
theorem rtest_6 (n x y : Nat) (h0 : 0 < n) (hn : n ≤ 64) (hx : x < 18446744073709551616) (hy : y < 18446744073709551616) (sm ab ba : Bool) (hs : (x % 2 ^ n == y % 2 ^ n) = sm) (hab : lessN true n x y = ab) (hba : lessN true n y x = ba) (w : World) :
    Calls Try.prog 15 #[.int .i64 6, .int .i64 n, .int .u64 x, .int .u64 y] w (RetT w (.int .u64 (one (!ba)))) := by
  have LX := Lib.hid (list_ok n x h0 hn hx)
  have LY := Lib.hid (list_ok n y h0 hn hy)
  have L1 := less2_ok true n x y h0 hn hx hy
  have L2 := less2_ok true n y x h0 hn hy hx
  rw [hab] at L1
  rw [hba] at L2
  have H1 := Lib.hid L1
  have H2 := Lib.hid L2
  have WX := Lib.hid (fun (w : World) (v : Value) (B : Nat) (hv : Bits w v (lst n x) B) => word_ok (w := w) (lst n x) (by rw [lst_length]; exact hn) hv)
  have WY := Lib.hid (fun (w : World) (v : Value) (B : Nat) (hv : Bits w v (lst n y) B) => word_ok (w := w) (lst n y) (by rw [lst_length]; exact hn) hv)
  rw [wd_lst] at WX WY
  have hs2 : (((x % 2 ^ n : Nat) : Int) == ((y % 2 ^ n : Nat) : Int)) = sm := by
    rw [← hs, Bool.eq_iff_iff, beq_iff_eq, beq_iff_eq]; omega
  generalize x % 2 ^ n = X at *
  generalize y % 2 ^ n = Y at *
  clear hs hab hba L1 L2
  go_enter Try.func15, Try.ntmps15
  go_wp2_with fail
  refine (LX.out _).mono ?_
  rintro e w2 ⟨v, rfl, b2, t2⟩
  go_wp2_with fail
  refine (WX.out _ _ _ b2).mono ?_
  rintro e w3 ⟨rfl, rfl⟩
  clear b2
  go_wp2_with fail
  refine (LY.out _).mono ?_
  rintro e w3 ⟨u, rfl, b3, t3⟩
  have t := t2.trans t3
  clear t2 t3
  go_wp2_with fail
  refine (WY.out _ _ _ b3).mono ?_
  rintro e w4 ⟨rfl, rfl⟩
  clear b3 LX LY WX WY
  go_wp2_with fail
  refine (H1.out _).mono ?_
  rintro e w4 ⟨rfl, t4⟩
  go_wp2_with fail
  refine (H2.out _).mono ?_
  rintro e w5 ⟨rfl, t5⟩
  have t' := t.trans (t4.trans t5)
  clear t t4 t5 H1 H2 hx hy
  go_wp2_with fail
  all_goals
    rename_i hv
    go_ret
    rw [show (!ba) = _ from by first | exact hv | simpa using hv]
    exact ⟨rfl, t'.trans (Touch.alloc _ _ _)⟩

set_option maxRecDepth 100000 in
set_option maxHeartbeats 1000000 in
theorem rtest_7 (n x y : Nat) (h0 : 0 < n) (hn : n ≤ 64) (hx : x < 18446744073709551616) (hy : y < 18446744073709551616) (sm ab ba : Bool) (hs : (x % 2 ^ n == y % 2 ^ n) = sm) (hab : lessN false n x y = ab) (hba : lessN false n y x = ba) (w : World) :
    Calls Try.prog 15 #[.int .i64 7, .int .i64 n, .int .u64 x, .int .u64 y] w (RetT w (.int .u64 (one (!ba)))) := by
  have LX := Lib.hid (list_ok n x h0 hn hx)
  have LY := Lib.hid (list_ok n y h0 hn hy)
  have L1 := less2_ok false n x y h0 hn hx hy
  have L2 := less2_ok false n y x h0 hn hy hx
  rw [hab] at L1
  rw [hba] at L2
  have H1 := Lib.hid L1
  have H2 := Lib.hid L2
  have WX := Lib.hid (fun (w : World) (v : Value) (B : Nat) (hv : Bits w v (lst n x) B) => word_ok (w := w) (lst n x) (by rw [lst_length]; exact hn) hv)
  have WY := Lib.hid (fun (w : World) (v : Value) (B : Nat) (hv : Bits w v (lst n y) B) => word_ok (w := w) (lst n y) (by rw [lst_length]; exact hn) hv)
  rw [wd_lst] at WX WY
  have hs2 : (((x % 2 ^ n : Nat) : Int) == ((y % 2 ^ n : Nat) : Int)) = sm := by
    rw [← hs, Bool.eq_iff_iff, beq_iff_eq, beq_iff_eq]; omega
  generalize x % 2 ^ n = X at *
  generalize y % 2 ^ n = Y at *
  clear hs hab hba L1 L2
  go_enter Try.func15, Try.ntmps15
  go_wp2_with fail
  refine (LX.out _).mono ?_
  rintro e w2 ⟨v, rfl, b2, t2⟩
  go_wp2_with fail
  refine (WX.out _ _ _ b2).mono ?_
  rintro e w3 ⟨rfl, rfl⟩
  clear b2
  go_wp2_with fail
  refine (LY.out _).mono ?_
  rintro e w3 ⟨u, rfl, b3, t3⟩
  have t := t2.trans t3
  clear t2 t3
  go_wp2_with fail
  refine (WY.out _ _ _ b3).mono ?_
  rintro e w4 ⟨rfl, rfl⟩
  clear b3 LX LY WX WY
  go_wp2_with fail
  refine (H1.out _).mono ?_
  rintro e w4 ⟨rfl, t4⟩
  go_wp2_with fail
  refine (H2.out _).mono ?_
  rintro e w5 ⟨rfl, t5⟩
  have t' := t.trans (t4.trans t5)
  clear t t4 t5 H1 H2 hx hy
  go_wp2_with fail
  all_goals
    rename_i hv
    go_ret
    rw [show (!ba) = _ from by first | exact hv | simpa using hv]
    exact ⟨rfl, t'.trans (Touch.alloc _ _ _)⟩

set_option maxRecDepth 100000 in
set_option maxHeartbeats 1000000 in
theorem rtest_8 (n x y : Nat) (h0 : 0 < n) (hn : n ≤ 64) (hx : x < 18446744073709551616) (hy : y < 18446744073709551616) (sm ab ba : Bool) (hs : (x % 2 ^ n == y % 2 ^ n) = sm) (hab : lessN true n x y = ab) (hba : lessN true n y x = ba) (w : World) :
    Calls Try.prog 15 #[.int .i64 8, .int .i64 n, .int .u64 x, .int .u64 y] w (RetT w (.int .u64 (one (!ab)))) := by
  have LX := Lib.hid (list_ok n x h0 hn hx)
  have LY := Lib.hid (list_ok n y h0 hn hy)
  have L1 := less2_ok true n x y h0 hn hx hy
  have L2 := less2_ok true n y x h0 hn hy hx
  rw [hab] at L1
  rw [hba] at L2
  have H1 := Lib.hid L1
  have H2 := Lib.hid L2
  have WX := Lib.hid (fun (w : World) (v : Value) (B : Nat) (hv : Bits w v (lst n x) B) => word_ok (w := w) (lst n x) (by rw [lst_length]; exact hn) hv)
  have WY := Lib.hid (fun (w : World) (v : Value) (B : Nat) (hv : Bits w v (lst n y) B) => word_ok (w := w) (lst n y) (by rw [lst_length]; exact hn) hv)
  rw [wd_lst] at WX WY
  have hs2 : (((x % 2 ^ n : Nat) : Int) == ((y % 2 ^ n : Nat) : Int)) = sm := by
    rw [← hs, Bool.eq_iff_iff, beq_iff_eq, beq_iff_eq]; omega
  generalize x % 2 ^ n = X at *
  generalize y % 2 ^ n = Y at *
  clear hs hab hba L1 L2
  go_enter Try.func15, Try.ntmps15
  go_wp2_with fail
  refine (LX.out _).mono ?_
  rintro e w2 ⟨v, rfl, b2, t2⟩
  go_wp2_with fail
  refine (WX.out _ _ _ b2).mono ?_
  rintro e w3 ⟨rfl, rfl⟩
  clear b2
  go_wp2_with fail
  refine (LY.out _).mono ?_
  rintro e w3 ⟨u, rfl, b3, t3⟩
  have t := t2.trans t3
  clear t2 t3
  go_wp2_with fail
  refine (WY.out _ _ _ b3).mono ?_
  rintro e w4 ⟨rfl, rfl⟩
  clear b3 LX LY WX WY
  go_wp2_with fail
  refine (H1.out _).mono ?_
  rintro e w4 ⟨rfl, t4⟩
  go_wp2_with fail
  refine (H2.out _).mono ?_
  rintro e w5 ⟨rfl, t5⟩
  have t' := t.trans (t4.trans t5)
  clear t t4 t5 H1 H2 hx hy
  go_wp2_with fail
  all_goals
    rename_i hv
    go_ret
    rw [show (!ab) = _ from by first | exact hv | simpa using hv]
    exact ⟨rfl, t'.trans (Touch.alloc _ _ _)⟩

set_option maxRecDepth 100000 in
set_option maxHeartbeats 1000000 in
theorem rtest_9 (n x y : Nat) (h0 : 0 < n) (hn : n ≤ 64) (hx : x < 18446744073709551616) (hy : y < 18446744073709551616) (sm ab ba : Bool) (hs : (x % 2 ^ n == y % 2 ^ n) = sm) (hab : lessN false n x y = ab) (hba : lessN false n y x = ba) (w : World) :
    Calls Try.prog 15 #[.int .i64 9, .int .i64 n, .int .u64 x, .int .u64 y] w (RetT w (.int .u64 (one (!ab)))) := by
  have LX := Lib.hid (list_ok n x h0 hn hx)
  have LY := Lib.hid (list_ok n y h0 hn hy)
  have L1 := less2_ok false n x y h0 hn hx hy
  have L2 := less2_ok false n y x h0 hn hy hx
  rw [hab] at L1
  rw [hba] at L2
  have H1 := Lib.hid L1
  have H2 := Lib.hid L2
  have WX := Lib.hid (fun (w : World) (v : Value) (B : Nat) (hv : Bits w v (lst n x) B) => word_ok (w := w) (lst n x) (by rw [lst_length]; exact hn) hv)
  have WY := Lib.hid (fun (w : World) (v : Value) (B : Nat) (hv : Bits w v (lst n y) B) => word_ok (w := w) (lst n y) (by rw [lst_length]; exact hn) hv)
  rw [wd_lst] at WX WY
  have hs2 : (((x % 2 ^ n : Nat) : Int) == ((y % 2 ^ n : Nat) : Int)) = sm := by
    rw [← hs, Bool.eq_iff_iff, beq_iff_eq, beq_iff_eq]; omega
  generalize x % 2 ^ n = X at *
  generalize y % 2 ^ n = Y at *
  clear hs hab hba L1 L2
  go_enter Try.func15, Try.ntmps15
  go_wp2_with fail
  refine (LX.out _).mono ?_
  rintro e w2 ⟨v, rfl, b2, t2⟩
  go_wp2_with fail
  refine (WX.out _ _ _ b2).mono ?_
  rintro e w3 ⟨rfl, rfl⟩
  clear b2
  go_wp2_with fail
  refine (LY.out _).mono ?_
  rintro e w3 ⟨u, rfl, b3, t3⟩
  have t := t2.trans t3
  clear t2 t3
  go_wp2_with fail
  refine (WY.out _ _ _ b3).mono ?_
  rintro e w4 ⟨rfl, rfl⟩
  clear b3 LX LY WX WY
  go_wp2_with fail
  refine (H1.out _).mono ?_
  rintro e w4 ⟨rfl, t4⟩
  go_wp2_with fail
  refine (H2.out _).mono ?_
  rintro e w5 ⟨rfl, t5⟩
  have t' := t.trans (t4.trans t5)
  clear t t4 t5 H1 H2 hx hy
  go_wp2_with fail
  all_goals
    rename_i hv
    go_ret
    rw [show (!ab) = _ from by first | exact hv | simpa using hv]
    exact ⟨rfl, t'.trans (Touch.alloc _ _ _)⟩

theorem cast_range {n : Nat} (hn : n = 32 ∨ n = 64) : okBits (n : Int) = true := by rcases hn with rfl | rfl <;> rfl
theorem same_is (n x y : Nat) (hn : n = 32 ∨ n = 64) (hx : x < 18446744073709551616) (hy : y < 18446744073709551616) : (x % 2 ^ n == y % 2 ^ n) = (cut n x == cut n y) := by
  rw [cut_nat n x hn hx, cut_nat n y hn hy, Bool.eq_iff_iff, beq_iff_eq, beq_iff_eq]; omega

set_option maxHeartbeats 1000000 in
theorem tests_0 (n x y : Nat) (hn : n = 32 ∨ n = 64) (hx : x < 18446744073709551616) (hy : y < 18446744073709551616) (w : World) :
    Calls Try.prog 6 #[.int .i64 0, .int .i64 n, .int .u64 x, .int .u64 y] w (RetT w (.bool true)) := by
  have hb := cast_range hn
  have T := test_0 n x y hb (by omega) (by omega) (by omega) (by omega) w
  have RT := rtest_0 n x y (by omega) (by omega) hx hy (cut n x == cut n y) (lessW true n (cut n x) (cut n y)) (lessW true n (cut n y) (cut n x)) (same_is n x y hn hx hy) (lessN_is true n x y hn hx hy) (lessN_is true n y x hn hy hx)
  have R := Lib.hid (lawright_ok n w)
  rw [hb] at R
  generalize one (cut n x == cut n y) = z at *
  replace T := Lib.hid T
  replace RT := Lib.hid RT
  clear hb
  go_enter Try.func6, Try.ntmps6
  go_wp2_with fail
  refine T.out.mono ?_
  rintro e w2 ⟨rfl, rfl⟩
  go_wp2_with fail
  refine R.out.mono ?_
  rintro e w2 ⟨rfl, rfl⟩
  go_wp2_with fail
  refine (RT.out _).mono ?_
  rintro e w2 ⟨rfl, t⟩
  go_wp2_with fail
  refine (awake_ok _).mono ?_
  rintro e w2 ⟨rfl, rfl⟩
  go_wp2_with fail
  go_ret
  exact ⟨rfl, t⟩

set_option maxHeartbeats 1000000 in
theorem tests_1 (n x y : Nat) (hn : n = 32 ∨ n = 64) (hx : x < 18446744073709551616) (hy : y < 18446744073709551616) (w : World) :
    Calls Try.prog 6 #[.int .i64 1, .int .i64 n, .int .u64 x, .int .u64 y] w (RetT w (.bool true)) := by
  have hb := cast_range hn
  have T := test_1 n x y hb (by omega) (by omega) (by omega) (by omega) w
  have RT := rtest_1 n x y (by omega) (by omega) hx hy (cut n x == cut n y) (lessW false n (cut n x) (cut n y)) (lessW false n (cut n y) (cut n x)) (same_is n x y hn hx hy) (lessN_is false n x y hn hx hy) (lessN_is false n y x hn hy hx)
  rw [show (!(cut n x == cut n y)) = (cut n x != cut n y) from rfl] at RT
  have R := Lib.hid (lawright_ok n w)
  rw [hb] at R
  generalize one (cut n x != cut n y) = z at *
  replace T := Lib.hid T
  replace RT := Lib.hid RT
  clear hb
  go_enter Try.func6, Try.ntmps6
  go_wp2_with fail
  refine T.out.mono ?_
  rintro e w2 ⟨rfl, rfl⟩
  go_wp2_with fail
  refine R.out.mono ?_
  rintro e w2 ⟨rfl, rfl⟩
  go_wp2_with fail
  refine (RT.out _).mono ?_
  rintro e w2 ⟨rfl, t⟩
  go_wp2_with fail
  refine (awake_ok _).mono ?_
  rintro e w2 ⟨rfl, rfl⟩
  go_wp2_with fail
  go_ret
  exact ⟨rfl, t⟩

set_option maxHeartbeats 1000000 in
theorem tests_2 (n x y : Nat) (hn : n = 32 ∨ n = 64) (hx : x < 18446744073709551616) (hy : y < 18446744073709551616) (w : World) :
    Calls Try.prog 6 #[.int .i64 2, .int .i64 n, .int .u64 x, .int .u64 y] w (RetT w (.bool true)) := by
  have hb := cast_range hn
  have T := test_2 n x y hb (by omega) (by omega) (by omega) (by omega) w
  have RT := rtest_2 n x y (by omega) (by omega) hx hy (cut n x == cut n y) (lessW true n (cut n x) (cut n y)) (lessW true n (cut n y) (cut n x)) (same_is n x y hn hx hy) (lessN_is true n x y hn hx hy) (lessN_is true n y x hn hy hx)
  have R := Lib.hid (lawright_ok n w)
  rw [hb] at R
  generalize one (lessW true n (cut n x) (cut n y)) = z at *
  replace T := Lib.hid T
  replace RT := Lib.hid RT
  clear hb
  go_enter Try.func6, Try.ntmps6
  go_wp2_with fail
  refine T.out.mono ?_
  rintro e w2 ⟨rfl, rfl⟩
  go_wp2_with fail
  refine R.out.mono ?_
  rintro e w2 ⟨rfl, rfl⟩
  go_wp2_with fail
  refine (RT.out _).mono ?_
  rintro e w2 ⟨rfl, t⟩
  go_wp2_with fail
  refine (awake_ok _).mono ?_
  rintro e w2 ⟨rfl, rfl⟩
  go_wp2_with fail
  go_ret
  exact ⟨rfl, t⟩

set_option maxHeartbeats 1000000 in
theorem tests_3 (n x y : Nat) (hn : n = 32 ∨ n = 64) (hx : x < 18446744073709551616) (hy : y < 18446744073709551616) (w : World) :
    Calls Try.prog 6 #[.int .i64 3, .int .i64 n, .int .u64 x, .int .u64 y] w (RetT w (.bool true)) := by
  have hb := cast_range hn
  have T := test_3 n x y hb (by omega) (by omega) (by omega) (by omega) w
  have RT := rtest_3 n x y (by omega) (by omega) hx hy (cut n x == cut n y) (lessW false n (cut n x) (cut n y)) (lessW false n (cut n y) (cut n x)) (same_is n x y hn hx hy) (lessN_is false n x y hn hx hy) (lessN_is false n y x hn hy hx)
  have R := Lib.hid (lawright_ok n w)
  rw [hb] at R
  generalize one (lessW false n (cut n x) (cut n y)) = z at *
  replace T := Lib.hid T
  replace RT := Lib.hid RT
  clear hb
  go_enter Try.func6, Try.ntmps6
  go_wp2_with fail
  refine T.out.mono ?_
  rintro e w2 ⟨rfl, rfl⟩
  go_wp2_with fail
  refine R.out.mono ?_
  rintro e w2 ⟨rfl, rfl⟩
  go_wp2_with fail
  refine (RT.out _).mono ?_
  rintro e w2 ⟨rfl, t⟩
  go_wp2_with fail
  refine (awake_ok _).mono ?_
  rintro e w2 ⟨rfl, rfl⟩
  go_wp2_with fail
  go_ret
  exact ⟨rfl, t⟩

set_option maxHeartbeats 1000000 in
theorem tests_4 (n x y : Nat) (hn : n = 32 ∨ n = 64) (hx : x < 18446744073709551616) (hy : y < 18446744073709551616) (w : World) :
    Calls Try.prog 6 #[.int .i64 4, .int .i64 n, .int .u64 x, .int .u64 y] w (RetT w (.bool true)) := by
  have hb := cast_range hn
  have T := test_4 n x y hb (by omega) (by omega) (by omega) (by omega) w
  have RT := rtest_4 n x y (by omega) (by omega) hx hy (cut n x == cut n y) (lessW true n (cut n x) (cut n y)) (lessW true n (cut n y) (cut n x)) (same_is n x y hn hx hy) (lessN_is true n x y hn hx hy) (lessN_is true n y x hn hy hx)
  have R := Lib.hid (lawright_ok n w)
  rw [hb] at R
  generalize one (lessW true n (cut n y) (cut n x)) = z at *
  replace T := Lib.hid T
  replace RT := Lib.hid RT
  clear hb
  go_enter Try.func6, Try.ntmps6
  go_wp2_with fail
  refine T.out.mono ?_
  rintro e w2 ⟨rfl, rfl⟩
  go_wp2_with fail
  refine R.out.mono ?_
  rintro e w2 ⟨rfl, rfl⟩
  go_wp2_with fail
  refine (RT.out _).mono ?_
  rintro e w2 ⟨rfl, t⟩
  go_wp2_with fail
  refine (awake_ok _).mono ?_
  rintro e w2 ⟨rfl, rfl⟩
  go_wp2_with fail
  go_ret
  exact ⟨rfl, t⟩

set_option maxHeartbeats 1000000 in
theorem tests_5 (n x y : Nat) (hn : n = 32 ∨ n = 64) (hx : x < 18446744073709551616) (hy : y < 18446744073709551616) (w : World) :
    Calls Try.prog 6 #[.int .i64 5, .int .i64 n, .int .u64 x, .int .u64 y] w (RetT w (.bool true)) := by
  have hb := cast_range hn
  have T := test_5 n x y hb (by omega) (by omega) (by omega) (by omega) w
  have RT := rtest_5 n x y (by omega) (by omega) hx hy (cut n x == cut n y) (lessW false n (cut n x) (cut n y)) (lessW false n (cut n y) (cut n x)) (same_is n x y hn hx hy) (lessN_is false n x y hn hx hy) (lessN_is false n y x hn hy hx)
  have R := Lib.hid (lawright_ok n w)
  rw [hb] at R
  generalize one (lessW false n (cut n y) (cut n x)) = z at *
  replace T := Lib.hid T
  replace RT := Lib.hid RT
  clear hb
  go_enter Try.func6, Try.ntmps6
  go_wp2_with fail
  refine T.out.mono ?_
  rintro e w2 ⟨rfl, rfl⟩
  go_wp2_with fail
  refine R.out.mono ?_
  rintro e w2 ⟨rfl, rfl⟩
  go_wp2_with fail
  refine (RT.out _).mono ?_
  rintro e w2 ⟨rfl, t⟩
  go_wp2_with fail
  refine (awake_ok _).mono ?_
  rintro e w2 ⟨rfl, rfl⟩
  go_wp2_with fail
  go_ret
  exact ⟨rfl, t⟩

set_option maxHeartbeats 1000000 in
theorem tests_6 (n x y : Nat) (hn : n = 32 ∨ n = 64) (hx : x < 18446744073709551616) (hy : y < 18446744073709551616) (w : World) :
    Calls Try.prog 6 #[.int .i64 6, .int .i64 n, .int .u64 x, .int .u64 y] w (RetT w (.bool true)) := by
  have hb := cast_range hn
  have T := test_6 n x y hb (by omega) (by omega) (by omega) (by omega) w
  have RT := rtest_6 n x y (by omega) (by omega) hx hy (cut n x == cut n y) (lessW true n (cut n x) (cut n y)) (lessW true n (cut n y) (cut n x)) (same_is n x y hn hx hy) (lessN_is true n x y hn hx hy) (lessN_is true n y x hn hy hx)
  have R := Lib.hid (lawright_ok n w)
  rw [hb] at R
  generalize one (!(lessW true n (cut n y) (cut n x))) = z at *
  replace T := Lib.hid T
  replace RT := Lib.hid RT
  clear hb
  go_enter Try.func6, Try.ntmps6
  go_wp2_with fail
  refine T.out.mono ?_
  rintro e w2 ⟨rfl, rfl⟩
  go_wp2_with fail
  refine R.out.mono ?_
  rintro e w2 ⟨rfl, rfl⟩
  go_wp2_with fail
  refine (RT.out _).mono ?_
  rintro e w2 ⟨rfl, t⟩
  go_wp2_with fail
  refine (awake_ok _).mono ?_
  rintro e w2 ⟨rfl, rfl⟩
  go_wp2_with fail
  go_ret
  exact ⟨rfl, t⟩

set_option maxHeartbeats 1000000 in
theorem tests_7 (n x y : Nat) (hn : n = 32 ∨ n = 64) (hx : x < 18446744073709551616) (hy : y < 18446744073709551616) (w : World) :
    Calls Try.prog 6 #[.int .i64 7, .int .i64 n, .int .u64 x, .int .u64 y] w (RetT w (.bool true)) := by
  have hb := cast_range hn
  have T := test_7 n x y hb (by omega) (by omega) (by omega) (by omega) w
  have RT := rtest_7 n x y (by omega) (by omega) hx hy (cut n x == cut n y) (lessW false n (cut n x) (cut n y)) (lessW false n (cut n y) (cut n x)) (same_is n x y hn hx hy) (lessN_is false n x y hn hx hy) (lessN_is false n y x hn hy hx)
  have R := Lib.hid (lawright_ok n w)
  rw [hb] at R
  generalize one (!(lessW false n (cut n y) (cut n x))) = z at *
  replace T := Lib.hid T
  replace RT := Lib.hid RT
  clear hb
  go_enter Try.func6, Try.ntmps6
  go_wp2_with fail
  refine T.out.mono ?_
  rintro e w2 ⟨rfl, rfl⟩
  go_wp2_with fail
  refine R.out.mono ?_
  rintro e w2 ⟨rfl, rfl⟩
  go_wp2_with fail
  refine (RT.out _).mono ?_
  rintro e w2 ⟨rfl, t⟩
  go_wp2_with fail
  refine (awake_ok _).mono ?_
  rintro e w2 ⟨rfl, rfl⟩
  go_wp2_with fail
  go_ret
  exact ⟨rfl, t⟩

set_option maxHeartbeats 1000000 in
theorem tests_8 (n x y : Nat) (hn : n = 32 ∨ n = 64) (hx : x < 18446744073709551616) (hy : y < 18446744073709551616) (w : World) :
    Calls Try.prog 6 #[.int .i64 8, .int .i64 n, .int .u64 x, .int .u64 y] w (RetT w (.bool true)) := by
  have hb := cast_range hn
  have T := test_8 n x y hb (by omega) (by omega) (by omega) (by omega) w
  have RT := rtest_8 n x y (by omega) (by omega) hx hy (cut n x == cut n y) (lessW true n (cut n x) (cut n y)) (lessW true n (cut n y) (cut n x)) (same_is n x y hn hx hy) (lessN_is true n x y hn hx hy) (lessN_is true n y x hn hy hx)
  have R := Lib.hid (lawright_ok n w)
  rw [hb] at R
  generalize one (!(lessW true n (cut n x) (cut n y))) = z at *
  replace T := Lib.hid T
  replace RT := Lib.hid RT
  clear hb
  go_enter Try.func6, Try.ntmps6
  go_wp2_with fail
  refine T.out.mono ?_
  rintro e w2 ⟨rfl, rfl⟩
  go_wp2_with fail
  refine R.out.mono ?_
  rintro e w2 ⟨rfl, rfl⟩
  go_wp2_with fail
  refine (RT.out _).mono ?_
  rintro e w2 ⟨rfl, t⟩
  go_wp2_with fail
  refine (awake_ok _).mono ?_
  rintro e w2 ⟨rfl, rfl⟩
  go_wp2_with fail
  go_ret
  exact ⟨rfl, t⟩

set_option maxHeartbeats 1000000 in
theorem tests_9 (n x y : Nat) (hn : n = 32 ∨ n = 64) (hx : x < 18446744073709551616) (hy : y < 18446744073709551616) (w : World) :
    Calls Try.prog 6 #[.int .i64 9, .int .i64 n, .int .u64 x, .int .u64 y] w (RetT w (.bool true)) := by
  have hb := cast_range hn
  have T := test_9 n x y hb (by omega) (by omega) (by omega) (by omega) w
  have RT := rtest_9 n x y (by omega) (by omega) hx hy (cut n x == cut n y) (lessW false n (cut n x) (cut n y)) (lessW false n (cut n y) (cut n x)) (same_is n x y hn hx hy) (lessN_is false n x y hn hx hy) (lessN_is false n y x hn hy hx)
  have R := Lib.hid (lawright_ok n w)
  rw [hb] at R
  generalize one (!(lessW false n (cut n x) (cut n y))) = z at *
  replace T := Lib.hid T
  replace RT := Lib.hid RT
  clear hb
  go_enter Try.func6, Try.ntmps6
  go_wp2_with fail
  refine T.out.mono ?_
  rintro e w2 ⟨rfl, rfl⟩
  go_wp2_with fail
  refine R.out.mono ?_
  rintro e w2 ⟨rfl, rfl⟩
  go_wp2_with fail
  refine (RT.out _).mono ?_
  rintro e w2 ⟨rfl, t⟩
  go_wp2_with fail
  refine (awake_ok _).mono ?_
  rintro e w2 ⟨rfl, rfl⟩
  go_wp2_with fail
  go_ret
  exact ⟨rfl, t⟩

theorem tests_bad (op n x y : Int) (h : okBits n = false ∨ op < 0 ∨ 9 < op) (w : World) :
    Calls Try.prog 6 #[.int .i64 op, .int .i64 n, .int .u64 x, .int .u64 y] w (RetT w (.bool true)) := by
  have T := Lib.hid (test_bad op n x y h w)
  have R := Lib.hid (lawright_ok n w)
  have tt : Touch (fun _ => False) w w := Touch.refl _ _
  cases hn : okBits n with
  | false =>
    rw [hn] at R
    clear h hn
    go_enter Try.func6, Try.ntmps6
    go_wp2_with fail
    refine T.out.mono ?_
    rintro e w2 ⟨rfl, rfl⟩
    go_wp2_with fail
    refine R.out.mono ?_
    rintro e w2 ⟨rfl, rfl⟩
    go_wp2_with fail
    refine (awake_ok _).mono ?_
    rintro e w2 ⟨rfl, rfl⟩
    go_wp2_with fail
    go_ret
    exact ⟨rfl, tt⟩
  | true =>
    rw [hn] at R h
    by_cases h1 : op < 0
    · clear h hn
      go_enter Try.func6, Try.ntmps6
      go_wp2_with fail
      refine T.out.mono ?_
      rintro e w2 ⟨rfl, rfl⟩
      go_wp2_with fail
      refine R.out.mono ?_
      rintro e w2 ⟨rfl, rfl⟩
      go_wp2_with fail
      refine (awake_ok _).mono ?_
      rintro e w2 ⟨rfl, rfl⟩
      go_wp2_with fail
      go_ret
      exact ⟨rfl, tt⟩
    · have h2 : 9 < op := by
        rcases h with h | h | h
        · cases h
        · exact absurd h h1
        · exact h
      clear h hn
      go_enter Try.func6, Try.ntmps6
      go_wp2_with fail
      refine T.out.mono ?_
      rintro e w2 ⟨rfl, rfl⟩
      go_wp2_with fail
      refine R.out.mono ?_
      rintro e w2 ⟨rfl, rfl⟩
      go_wp2_with fail
      refine (awake_ok _).mono ?_
      rintro e w2 ⟨rfl, rfl⟩
      go_wp2_with fail
      go_ret
      exact ⟨rfl, tt⟩

theorem tests_fine (op n x y : Nat) (ho : op < 10) (hn : n = 32 ∨ n = 64) (hx : x < 18446744073709551616) (hy : y < 18446744073709551616) (w : World) :
    Calls Try.prog 6 #[.int .i64 op, .int .i64 n, .int .u64 x, .int .u64 y] w (RetT w (.bool true)) := by
  match op, ho with
  | 0, _ => exact tests_0 n x y hn hx hy w
  | 1, _ => exact tests_1 n x y hn hx hy w
  | 2, _ => exact tests_2 n x y hn hx hy w
  | 3, _ => exact tests_3 n x y hn hx hy w
  | 4, _ => exact tests_4 n x y hn hx hy w
  | 5, _ => exact tests_5 n x y hn hx hy w
  | 6, _ => exact tests_6 n x y hn hx hy w
  | 7, _ => exact tests_7 n x y hn hx hy w
  | 8, _ => exact tests_8 n x y hn hx hy w
  | 9, _ => exact tests_9 n x y hn hx hy w

theorem tests_law (op n a b : Int) (h0 : 0 ≤ a) (h1 : a < 18446744073709551616) (g0 : 0 ≤ b) (g1 : b < 18446744073709551616) (w : World) :
    Calls Try.prog 6 #[.int .i64 op, .int .i64 n, .int .u64 a, .int .u64 b] w (RetT w (.bool true)) := by
  by_cases h : okBits n = false ∨ op < 0 ∨ 9 < op
  · exact tests_bad op n a b h w
  · have hb : okBits n = true := by
      cases hh : okBits n with
      | true => rfl
      | false => exact absurd (Or.inl hh) h
    have hn := bits_of hb
    obtain ⟨x, rfl⟩ := Int.eq_ofNat_of_zero_le h0
    obtain ⟨y, rfl⟩ := Int.eq_ofNat_of_zero_le g0
    have ho : 0 ≤ op ∧ op ≤ 9 := by
      constructor
      · exact Int.not_lt.1 (fun e => h (Or.inr (Or.inl e)))
      · exact Int.not_lt.1 (fun e => h (Or.inr (Or.inr e)))
    obtain ⟨o, rfl⟩ := Int.eq_ofNat_of_zero_le ho.1
    have : ∃ k : Nat, n = (k : Int) ∧ (k = 32 ∨ k = 64) := by
      rcases hn with rfl | rfl
      · exact ⟨32, rfl, Or.inl rfl⟩
      · exact ⟨64, rfl, Or.inr rfl⟩
    obtain ⟨k, rfl, hk⟩ := this
    exact tests_fine o k x y (by omega) hk (by omega) (by omega) w

end Go.Proofs.Ytphhgmeokmemlaa
