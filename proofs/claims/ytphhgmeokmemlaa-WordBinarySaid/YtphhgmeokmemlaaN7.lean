/- The document's answer, op for op: the plain ones. -/
import Derived.Test.YtphhgmeokmemlaaN6
namespace Go.Proofs.Ytphhgmeokmemlaa
open Go.RowKit Go.Maps
set_option linter.unusedSimpArgs false
set_option linter.unusedVariables false

def R2 (v t : Nat) (w : World) (e : Ending) (w' : World) : Prop := e = .returned (.tuple #[.int .u64 (v : Int), .int .i64 (t : Int)]) ∧ Touch (fun _ => False) w w'

section
variable (N x y : Nat) (h0 : 0 < N) (hn : N ≤ 64) (hx : x < 18446744073709551616) (hy : y < 18446744073709551616) (w : World)
include h0 hn hx hy

set_option maxRecDepth 100000 in
set_option maxHeartbeats 1000000 in
theorem ref_add : Calls Try.prog 11 #[.int .i64 0, .int .i64 N, .int .u64 x, .int .u64 y] w (R2 ((x % 2 ^ N + y % 2 ^ N) % 2 ^ N) 0 w) := by
  have LA := Lib.hid (fun w => list_ok N x h0 hn hx w)
  have LB := Lib.hid (fun w => list_ok N y h0 hn hy w)
  have eN : IntKind.u64.wrap (N : Int) = (N : Int) := IntWalk.u64_in _ (by omega)
  have nN : ¬ (N : Int) = 0 := by omega
  have kK : (y % 2 ^ N) % N < N := Nat.mod_lt _ h0
  have hk : ((y % 2 ^ N : Nat) : Int) % (N : Int) = (((y % 2 ^ N) % N : Nat) : Int) := (Int.natCast_emod _ _).symm
  have KK := Lib.hid (show ∃ K, K = (y % 2 ^ N) % N from ⟨_, rfl⟩)
  obtain ⟨K, hK⟩ := KK.out
  rw [← hK] at hk kK
  have eK : IntKind.i64.wrap (K : Int) = (K : Int) := IntWalk.i64_in _ (by omega)
  have WA := wd_lst N x
  have WB := wd_lst N y
  have lA := lst_length N x
  have lB := lst_length N y
  have HK := Lib.hid hK
  have WO := fun (w : World) (v : Value) (B : Nat) (h : Bits w v (lst N y) B) => word_ok (lst N y) (by omega) h
  rw [WB] at WO
  obtain ⟨la, hla⟩ : ∃ l, l = lst N x := ⟨_, rfl⟩
  obtain ⟨lb, hlb⟩ : ∃ l, l = lst N y := ⟨_, rfl⟩
  rw [← hla] at WA lA
  rw [← hlb] at WB lB WO
  have HLA := hla.symm
  have HLB := hlb.symm
  have HH := Lib.hid (And.intro WA (And.intro WB (And.intro lA lB)))
  obtain ⟨Y, hY⟩ : ∃ Y, Y = y % 2 ^ N := ⟨_, rfl⟩
  rw [← hY] at WO hk
  have WO := Lib.hid WO
  have HY := Lib.hid hY
  clear hY
  have HLA2 := Lib.hid HLA
  have HLB2 := Lib.hid HLB
  clear WA WB lA lB hK hla hlb KK HLA HLB
  go_enter Try.func11, Try.ntmps11
  go_wp2_with fail
  refine (LA.out _).mono ?_
  rintro e w2 ⟨va, rfl, ba, t2⟩
  rw [HLA2.out] at ba
  have BA := Lib.hid ba
  have T2 := Lib.hid t2
  clear ba t2
  go_wp2_with fail
  refine (LB.out _).mono ?_
  rintro e w3 ⟨vb, rfl, bb, t3⟩
  rw [HLB2.out] at bb
  have T3 := Lib.hid (T2.out.trans t3)
  have BA3 := Lib.hid (BA.out.fresh t3)
  have BB3 := Lib.hid bb
  clear t3 bb
  go_wp2_with fail
  refine (WO.out _ _ _ BB3.out).mono ?_
  rintro e w4 ⟨rfl, rfl⟩
  go_wp2_with fail
  refine (add_ok la lb false N HH.out.2.2.1 HH.out.2.2.2 h0 (by omega) BA3.out BB3.out).mono ?_
  rintro e w5 ⟨v5, rfl, b5, t5⟩
  have WL := Lib.hid (word_ok (addL la lb false N) (by rw [addL_length]; exact hn) b5)
  have T5 := Lib.hid (T3.out.trans t5)
  have VV := Lib.hid (show wd (addL la lb false N) = (x % 2 ^ N + y % 2 ^ N) % 2 ^ N by rw [wd_add la lb false N HH.out.2.2.1 HH.out.2.2.2, HH.out.1, HH.out.2.1]; rfl)
  clear b5 t5
  generalize wd (addL la lb false N) = r at *
  go_wp2_with fail
  refine WL.out.mono ?_
  rintro e w6 ⟨rfl, rfl⟩
  go_wp2_with fail
  go_ret2
  exact ⟨by rw [← VV.out]; rfl, T5.out⟩

set_option maxRecDepth 100000 in
set_option maxHeartbeats 1000000 in
theorem ref_sub : Calls Try.prog 11 #[.int .i64 1, .int .i64 N, .int .u64 x, .int .u64 y] w (R2 ((x % 2 ^ N + (2 ^ N - y % 2 ^ N)) % 2 ^ N) 0 w) := by
  have LA := Lib.hid (fun w => list_ok N x h0 hn hx w)
  have LB := Lib.hid (fun w => list_ok N y h0 hn hy w)
  have eN : IntKind.u64.wrap (N : Int) = (N : Int) := IntWalk.u64_in _ (by omega)
  have nN : ¬ (N : Int) = 0 := by omega
  have kK : (y % 2 ^ N) % N < N := Nat.mod_lt _ h0
  have hk : ((y % 2 ^ N : Nat) : Int) % (N : Int) = (((y % 2 ^ N) % N : Nat) : Int) := (Int.natCast_emod _ _).symm
  have KK := Lib.hid (show ∃ K, K = (y % 2 ^ N) % N from ⟨_, rfl⟩)
  obtain ⟨K, hK⟩ := KK.out
  rw [← hK] at hk kK
  have eK : IntKind.i64.wrap (K : Int) = (K : Int) := IntWalk.i64_in _ (by omega)
  have WA := wd_lst N x
  have WB := wd_lst N y
  have lA := lst_length N x
  have lB := lst_length N y
  have HK := Lib.hid hK
  have WO := fun (w : World) (v : Value) (B : Nat) (h : Bits w v (lst N y) B) => word_ok (lst N y) (by omega) h
  rw [WB] at WO
  obtain ⟨la, hla⟩ : ∃ l, l = lst N x := ⟨_, rfl⟩
  obtain ⟨lb, hlb⟩ : ∃ l, l = lst N y := ⟨_, rfl⟩
  rw [← hla] at WA lA
  rw [← hlb] at WB lB WO
  have HLA := hla.symm
  have HLB := hlb.symm
  have HH := Lib.hid (And.intro WA (And.intro WB (And.intro lA lB)))
  obtain ⟨Y, hY⟩ : ∃ Y, Y = y % 2 ^ N := ⟨_, rfl⟩
  rw [← hY] at WO hk
  have WO := Lib.hid WO
  have HY := Lib.hid hY
  clear hY
  have HLA2 := Lib.hid HLA
  have HLB2 := Lib.hid HLB
  clear WA WB lA lB hK hla hlb KK HLA HLB
  go_enter Try.func11, Try.ntmps11
  go_wp2_with fail
  refine (LA.out _).mono ?_
  rintro e w2 ⟨va, rfl, ba, t2⟩
  rw [HLA2.out] at ba
  have BA := Lib.hid ba
  have T2 := Lib.hid t2
  clear ba t2
  go_wp2_with fail
  refine (LB.out _).mono ?_
  rintro e w3 ⟨vb, rfl, bb, t3⟩
  rw [HLB2.out] at bb
  have T3 := Lib.hid (T2.out.trans t3)
  have BA3 := Lib.hid (BA.out.fresh t3)
  have BB3 := Lib.hid bb
  clear t3 bb
  go_wp2_with fail
  refine (WO.out _ _ _ BB3.out).mono ?_
  rintro e w4 ⟨rfl, rfl⟩
  go_wp2_with fail
  refine (minus_ok la lb N HH.out.2.2.1 HH.out.2.2.2 h0 (by omega) BA3.out BB3.out).mono ?_
  rintro e w5 ⟨v5, rfl, b5, t5⟩
  have WL := Lib.hid (word_ok (minusL la lb N) (by rw [minusL_length]; exact hn) b5)
  have T5 := Lib.hid (T3.out.trans t5)
  have VV := Lib.hid (show wd (minusL la lb N) = (x % 2 ^ N + (2 ^ N - y % 2 ^ N)) % 2 ^ N by rw [wd_minus la lb N HH.out.2.2.1 HH.out.2.2.2, HH.out.1, HH.out.2.1])
  clear b5 t5
  generalize wd (minusL la lb N) = r at *
  go_wp2_with fail
  refine WL.out.mono ?_
  rintro e w6 ⟨rfl, rfl⟩
  go_wp2_with fail
  go_ret2
  exact ⟨by rw [← VV.out]; rfl, T5.out⟩

set_option maxRecDepth 100000 in
set_option maxHeartbeats 1000000 in
theorem ref_and : Calls Try.prog 11 #[.int .i64 7, .int .i64 N, .int .u64 x, .int .u64 y] w (R2 ((x % 2 ^ N) &&& (y % 2 ^ N)) 0 w) := by
  have LA := Lib.hid (fun w => list_ok N x h0 hn hx w)
  have LB := Lib.hid (fun w => list_ok N y h0 hn hy w)
  have eN : IntKind.u64.wrap (N : Int) = (N : Int) := IntWalk.u64_in _ (by omega)
  have nN : ¬ (N : Int) = 0 := by omega
  have kK : (y % 2 ^ N) % N < N := Nat.mod_lt _ h0
  have hk : ((y % 2 ^ N : Nat) : Int) % (N : Int) = (((y % 2 ^ N) % N : Nat) : Int) := (Int.natCast_emod _ _).symm
  have KK := Lib.hid (show ∃ K, K = (y % 2 ^ N) % N from ⟨_, rfl⟩)
  obtain ⟨K, hK⟩ := KK.out
  rw [← hK] at hk kK
  have eK : IntKind.i64.wrap (K : Int) = (K : Int) := IntWalk.i64_in _ (by omega)
  have WA := wd_lst N x
  have WB := wd_lst N y
  have lA := lst_length N x
  have lB := lst_length N y
  have HK := Lib.hid hK
  have WO := fun (w : World) (v : Value) (B : Nat) (h : Bits w v (lst N y) B) => word_ok (lst N y) (by omega) h
  rw [WB] at WO
  obtain ⟨la, hla⟩ : ∃ l, l = lst N x := ⟨_, rfl⟩
  obtain ⟨lb, hlb⟩ : ∃ l, l = lst N y := ⟨_, rfl⟩
  rw [← hla] at WA lA
  rw [← hlb] at WB lB WO
  have HLA := hla.symm
  have HLB := hlb.symm
  have HH := Lib.hid (And.intro WA (And.intro WB (And.intro lA lB)))
  obtain ⟨Y, hY⟩ : ∃ Y, Y = y % 2 ^ N := ⟨_, rfl⟩
  rw [← hY] at WO hk
  have WO := Lib.hid WO
  have HY := Lib.hid hY
  clear hY
  have HLA2 := Lib.hid HLA
  have HLB2 := Lib.hid HLB
  clear WA WB lA lB hK hla hlb KK HLA HLB
  go_enter Try.func11, Try.ntmps11
  go_wp2_with fail
  refine (LA.out _).mono ?_
  rintro e w2 ⟨va, rfl, ba, t2⟩
  rw [HLA2.out] at ba
  have BA := Lib.hid ba
  have T2 := Lib.hid t2
  clear ba t2
  go_wp2_with fail
  refine (LB.out _).mono ?_
  rintro e w3 ⟨vb, rfl, bb, t3⟩
  rw [HLB2.out] at bb
  have T3 := Lib.hid (T2.out.trans t3)
  have BA3 := Lib.hid (BA.out.fresh t3)
  have BB3 := Lib.hid bb
  clear t3 bb
  go_wp2_with fail
  refine (WO.out _ _ _ BB3.out).mono ?_
  rintro e w4 ⟨rfl, rfl⟩
  go_wp2_with fail
  refine (mix_and la lb N HH.out.2.2.1 HH.out.2.2.2 h0 (by omega) BA3.out BB3.out).mono ?_
  rintro e w5 ⟨v5, rfl, b5, t5⟩
  have WL := Lib.hid (word_ok (mixL (· && ·) la lb N) (by rw [mixL_length]; exact hn) b5)
  have T5 := Lib.hid (T3.out.trans t5)
  have VV := Lib.hid (show wd (mixL (· && ·) la lb N) = (x % 2 ^ N) &&& (y % 2 ^ N) by rw [wd_mix (· && ·) (· &&& ·) (fun a b i => Nat.testBit_and a b i) rfl la lb N HH.out.2.2.1 HH.out.2.2.2, HH.out.1, HH.out.2.1])
  clear b5 t5
  generalize wd (mixL (· && ·) la lb N) = r at *
  go_wp2_with fail
  refine WL.out.mono ?_
  rintro e w6 ⟨rfl, rfl⟩
  go_wp2_with fail
  go_ret2
  exact ⟨by rw [← VV.out]; rfl, T5.out⟩

set_option maxRecDepth 100000 in
set_option maxHeartbeats 1000000 in
theorem ref_or : Calls Try.prog 11 #[.int .i64 8, .int .i64 N, .int .u64 x, .int .u64 y] w (R2 ((x % 2 ^ N) ||| (y % 2 ^ N)) 0 w) := by
  have LA := Lib.hid (fun w => list_ok N x h0 hn hx w)
  have LB := Lib.hid (fun w => list_ok N y h0 hn hy w)
  have eN : IntKind.u64.wrap (N : Int) = (N : Int) := IntWalk.u64_in _ (by omega)
  have nN : ¬ (N : Int) = 0 := by omega
  have kK : (y % 2 ^ N) % N < N := Nat.mod_lt _ h0
  have hk : ((y % 2 ^ N : Nat) : Int) % (N : Int) = (((y % 2 ^ N) % N : Nat) : Int) := (Int.natCast_emod _ _).symm
  have KK := Lib.hid (show ∃ K, K = (y % 2 ^ N) % N from ⟨_, rfl⟩)
  obtain ⟨K, hK⟩ := KK.out
  rw [← hK] at hk kK
  have eK : IntKind.i64.wrap (K : Int) = (K : Int) := IntWalk.i64_in _ (by omega)
  have WA := wd_lst N x
  have WB := wd_lst N y
  have lA := lst_length N x
  have lB := lst_length N y
  have HK := Lib.hid hK
  have WO := fun (w : World) (v : Value) (B : Nat) (h : Bits w v (lst N y) B) => word_ok (lst N y) (by omega) h
  rw [WB] at WO
  obtain ⟨la, hla⟩ : ∃ l, l = lst N x := ⟨_, rfl⟩
  obtain ⟨lb, hlb⟩ : ∃ l, l = lst N y := ⟨_, rfl⟩
  rw [← hla] at WA lA
  rw [← hlb] at WB lB WO
  have HLA := hla.symm
  have HLB := hlb.symm
  have HH := Lib.hid (And.intro WA (And.intro WB (And.intro lA lB)))
  obtain ⟨Y, hY⟩ : ∃ Y, Y = y % 2 ^ N := ⟨_, rfl⟩
  rw [← hY] at WO hk
  have WO := Lib.hid WO
  have HY := Lib.hid hY
  clear hY
  have HLA2 := Lib.hid HLA
  have HLB2 := Lib.hid HLB
  clear WA WB lA lB hK hla hlb KK HLA HLB
  go_enter Try.func11, Try.ntmps11
  go_wp2_with fail
  refine (LA.out _).mono ?_
  rintro e w2 ⟨va, rfl, ba, t2⟩
  rw [HLA2.out] at ba
  have BA := Lib.hid ba
  have T2 := Lib.hid t2
  clear ba t2
  go_wp2_with fail
  refine (LB.out _).mono ?_
  rintro e w3 ⟨vb, rfl, bb, t3⟩
  rw [HLB2.out] at bb
  have T3 := Lib.hid (T2.out.trans t3)
  have BA3 := Lib.hid (BA.out.fresh t3)
  have BB3 := Lib.hid bb
  clear t3 bb
  go_wp2_with fail
  refine (WO.out _ _ _ BB3.out).mono ?_
  rintro e w4 ⟨rfl, rfl⟩
  go_wp2_with fail
  refine (mix_or la lb N HH.out.2.2.1 HH.out.2.2.2 h0 (by omega) BA3.out BB3.out).mono ?_
  rintro e w5 ⟨v5, rfl, b5, t5⟩
  have WL := Lib.hid (word_ok (mixL (· || ·) la lb N) (by rw [mixL_length]; exact hn) b5)
  have T5 := Lib.hid (T3.out.trans t5)
  have VV := Lib.hid (show wd (mixL (· || ·) la lb N) = (x % 2 ^ N) ||| (y % 2 ^ N) by rw [wd_mix (· || ·) (· ||| ·) (fun a b i => Nat.testBit_or a b i) rfl la lb N HH.out.2.2.1 HH.out.2.2.2, HH.out.1, HH.out.2.1])
  clear b5 t5
  generalize wd (mixL (· || ·) la lb N) = r at *
  go_wp2_with fail
  refine WL.out.mono ?_
  rintro e w6 ⟨rfl, rfl⟩
  go_wp2_with fail
  go_ret2
  exact ⟨by rw [← VV.out]; rfl, T5.out⟩

set_option maxRecDepth 100000 in
set_option maxHeartbeats 1000000 in
theorem ref_xor : Calls Try.prog 11 #[.int .i64 9, .int .i64 N, .int .u64 x, .int .u64 y] w (R2 ((x % 2 ^ N) ^^^ (y % 2 ^ N)) 0 w) := by
  have LA := Lib.hid (fun w => list_ok N x h0 hn hx w)
  have LB := Lib.hid (fun w => list_ok N y h0 hn hy w)
  have eN : IntKind.u64.wrap (N : Int) = (N : Int) := IntWalk.u64_in _ (by omega)
  have nN : ¬ (N : Int) = 0 := by omega
  have kK : (y % 2 ^ N) % N < N := Nat.mod_lt _ h0
  have hk : ((y % 2 ^ N : Nat) : Int) % (N : Int) = (((y % 2 ^ N) % N : Nat) : Int) := (Int.natCast_emod _ _).symm
  have KK := Lib.hid (show ∃ K, K = (y % 2 ^ N) % N from ⟨_, rfl⟩)
  obtain ⟨K, hK⟩ := KK.out
  rw [← hK] at hk kK
  have eK : IntKind.i64.wrap (K : Int) = (K : Int) := IntWalk.i64_in _ (by omega)
  have WA := wd_lst N x
  have WB := wd_lst N y
  have lA := lst_length N x
  have lB := lst_length N y
  have HK := Lib.hid hK
  have WO := fun (w : World) (v : Value) (B : Nat) (h : Bits w v (lst N y) B) => word_ok (lst N y) (by omega) h
  rw [WB] at WO
  obtain ⟨la, hla⟩ : ∃ l, l = lst N x := ⟨_, rfl⟩
  obtain ⟨lb, hlb⟩ : ∃ l, l = lst N y := ⟨_, rfl⟩
  rw [← hla] at WA lA
  rw [← hlb] at WB lB WO
  have HLA := hla.symm
  have HLB := hlb.symm
  have HH := Lib.hid (And.intro WA (And.intro WB (And.intro lA lB)))
  obtain ⟨Y, hY⟩ : ∃ Y, Y = y % 2 ^ N := ⟨_, rfl⟩
  rw [← hY] at WO hk
  have WO := Lib.hid WO
  have HY := Lib.hid hY
  clear hY
  have HLA2 := Lib.hid HLA
  have HLB2 := Lib.hid HLB
  clear WA WB lA lB hK hla hlb KK HLA HLB
  go_enter Try.func11, Try.ntmps11
  go_wp2_with fail
  refine (LA.out _).mono ?_
  rintro e w2 ⟨va, rfl, ba, t2⟩
  rw [HLA2.out] at ba
  have BA := Lib.hid ba
  have T2 := Lib.hid t2
  clear ba t2
  go_wp2_with fail
  refine (LB.out _).mono ?_
  rintro e w3 ⟨vb, rfl, bb, t3⟩
  rw [HLB2.out] at bb
  have T3 := Lib.hid (T2.out.trans t3)
  have BA3 := Lib.hid (BA.out.fresh t3)
  have BB3 := Lib.hid bb
  clear t3 bb
  go_wp2_with fail
  refine (WO.out _ _ _ BB3.out).mono ?_
  rintro e w4 ⟨rfl, rfl⟩
  go_wp2_with fail
  refine (mix_xor la lb N HH.out.2.2.1 HH.out.2.2.2 h0 (by omega) BA3.out BB3.out).mono ?_
  rintro e w5 ⟨v5, rfl, b5, t5⟩
  have WL := Lib.hid (word_ok (mixL xor la lb N) (by rw [mixL_length]; exact hn) b5)
  have T5 := Lib.hid (T3.out.trans t5)
  have VV := Lib.hid (show wd (mixL xor la lb N) = (x % 2 ^ N) ^^^ (y % 2 ^ N) by rw [wd_mix xor (· ^^^ ·) (fun a b i => Nat.testBit_xor a b i) rfl la lb N HH.out.2.2.1 HH.out.2.2.2, HH.out.1, HH.out.2.1])
  clear b5 t5
  generalize wd (mixL xor la lb N) = r at *
  go_wp2_with fail
  refine WL.out.mono ?_
  rintro e w6 ⟨rfl, rfl⟩
  go_wp2_with fail
  go_ret2
  exact ⟨by rw [← VV.out]; rfl, T5.out⟩

set_option maxRecDepth 100000 in
set_option maxHeartbeats 1000000 in
theorem ref_shl : Calls Try.prog 11 #[.int .i64 10, .int .i64 N, .int .u64 x, .int .u64 y] w (R2 ((x % 2 ^ N * 2 ^ ((y % 2 ^ N) % N)) % 2 ^ N) 0 w) := by
  have LA := Lib.hid (fun w => list_ok N x h0 hn hx w)
  have LB := Lib.hid (fun w => list_ok N y h0 hn hy w)
  have eN : IntKind.u64.wrap (N : Int) = (N : Int) := IntWalk.u64_in _ (by omega)
  have nN : ¬ (N : Int) = 0 := by omega
  have kK : (y % 2 ^ N) % N < N := Nat.mod_lt _ h0
  have hk : ((y % 2 ^ N : Nat) : Int) % (N : Int) = (((y % 2 ^ N) % N : Nat) : Int) := (Int.natCast_emod _ _).symm
  have KK := Lib.hid (show ∃ K, K = (y % 2 ^ N) % N from ⟨_, rfl⟩)
  obtain ⟨K, hK⟩ := KK.out
  rw [← hK] at hk kK
  have eK : IntKind.i64.wrap (K : Int) = (K : Int) := IntWalk.i64_in _ (by omega)
  have WA := wd_lst N x
  have WB := wd_lst N y
  have lA := lst_length N x
  have lB := lst_length N y
  have HK := Lib.hid hK
  have WO := fun (w : World) (v : Value) (B : Nat) (h : Bits w v (lst N y) B) => word_ok (lst N y) (by omega) h
  rw [WB] at WO
  obtain ⟨la, hla⟩ : ∃ l, l = lst N x := ⟨_, rfl⟩
  obtain ⟨lb, hlb⟩ : ∃ l, l = lst N y := ⟨_, rfl⟩
  rw [← hla] at WA lA
  rw [← hlb] at WB lB WO
  have HLA := hla.symm
  have HLB := hlb.symm
  have HH := Lib.hid (And.intro WA (And.intro WB (And.intro lA lB)))
  obtain ⟨Y, hY⟩ : ∃ Y, Y = y % 2 ^ N := ⟨_, rfl⟩
  rw [← hY] at WO hk
  have WO := Lib.hid WO
  have HY := Lib.hid hY
  clear hY
  have HLA2 := Lib.hid HLA
  have HLB2 := Lib.hid HLB
  clear WA WB lA lB hK hla hlb KK HLA HLB
  go_enter Try.func11, Try.ntmps11
  go_wp2_with fail
  refine (LA.out _).mono ?_
  rintro e w2 ⟨va, rfl, ba, t2⟩
  rw [HLA2.out] at ba
  have BA := Lib.hid ba
  have T2 := Lib.hid t2
  clear ba t2
  go_wp2_with fail
  refine (LB.out _).mono ?_
  rintro e w3 ⟨vb, rfl, bb, t3⟩
  rw [HLB2.out] at bb
  have T3 := Lib.hid (T2.out.trans t3)
  have BA3 := Lib.hid (BA.out.fresh t3)
  have BB3 := Lib.hid bb
  clear t3 bb
  go_wp2_with fail
  refine (WO.out _ _ _ BB3.out).mono ?_
  rintro e w4 ⟨rfl, rfl⟩
  go_wp2_with fail
  refine (shl_ok la K N HH.out.2.2.1 h0 (by omega) (by omega) BA3.out).mono ?_
  rintro e w5 ⟨v5, rfl, b5, t5⟩
  have WL := Lib.hid (word_ok (shlL la K N) (by rw [shlL_length la K N HH.out.2.2.1 (by omega)]; exact hn) b5)
  have T5 := Lib.hid (T3.out.trans t5)
  have VV := Lib.hid (show wd (shlL la K N) = (x % 2 ^ N * 2 ^ ((y % 2 ^ N) % N)) % 2 ^ N by rw [wd_shl la K N HH.out.2.2.1 (by omega), HH.out.1, HK.out])
  clear b5 t5
  generalize wd (shlL la K N) = r at *
  go_wp2_with fail
  refine WL.out.mono ?_
  rintro e w6 ⟨rfl, rfl⟩
  go_wp2_with fail
  go_ret2
  exact ⟨by rw [← VV.out]; rfl, T5.out⟩

set_option maxRecDepth 100000 in
set_option maxHeartbeats 1000000 in
theorem ref_shr : Calls Try.prog 11 #[.int .i64 12, .int .i64 N, .int .u64 x, .int .u64 y] w (R2 (x % 2 ^ N / 2 ^ ((y % 2 ^ N) % N)) 0 w) := by
  have LA := Lib.hid (fun w => list_ok N x h0 hn hx w)
  have LB := Lib.hid (fun w => list_ok N y h0 hn hy w)
  have eN : IntKind.u64.wrap (N : Int) = (N : Int) := IntWalk.u64_in _ (by omega)
  have nN : ¬ (N : Int) = 0 := by omega
  have kK : (y % 2 ^ N) % N < N := Nat.mod_lt _ h0
  have hk : ((y % 2 ^ N : Nat) : Int) % (N : Int) = (((y % 2 ^ N) % N : Nat) : Int) := (Int.natCast_emod _ _).symm
  have KK := Lib.hid (show ∃ K, K = (y % 2 ^ N) % N from ⟨_, rfl⟩)
  obtain ⟨K, hK⟩ := KK.out
  rw [← hK] at hk kK
  have eK : IntKind.i64.wrap (K : Int) = (K : Int) := IntWalk.i64_in _ (by omega)
  have WA := wd_lst N x
  have WB := wd_lst N y
  have lA := lst_length N x
  have lB := lst_length N y
  have HK := Lib.hid hK
  have WO := fun (w : World) (v : Value) (B : Nat) (h : Bits w v (lst N y) B) => word_ok (lst N y) (by omega) h
  rw [WB] at WO
  obtain ⟨la, hla⟩ : ∃ l, l = lst N x := ⟨_, rfl⟩
  obtain ⟨lb, hlb⟩ : ∃ l, l = lst N y := ⟨_, rfl⟩
  rw [← hla] at WA lA
  rw [← hlb] at WB lB WO
  have HLA := hla.symm
  have HLB := hlb.symm
  have HH := Lib.hid (And.intro WA (And.intro WB (And.intro lA lB)))
  obtain ⟨Y, hY⟩ : ∃ Y, Y = y % 2 ^ N := ⟨_, rfl⟩
  rw [← hY] at WO hk
  have WO := Lib.hid WO
  have HY := Lib.hid hY
  clear hY
  have HLA2 := Lib.hid HLA
  have HLB2 := Lib.hid HLB
  clear WA WB lA lB hK hla hlb KK HLA HLB
  go_enter Try.func11, Try.ntmps11
  go_wp2_with fail
  refine (LA.out _).mono ?_
  rintro e w2 ⟨va, rfl, ba, t2⟩
  rw [HLA2.out] at ba
  have BA := Lib.hid ba
  have T2 := Lib.hid t2
  clear ba t2
  go_wp2_with fail
  refine (LB.out _).mono ?_
  rintro e w3 ⟨vb, rfl, bb, t3⟩
  rw [HLB2.out] at bb
  have T3 := Lib.hid (T2.out.trans t3)
  have BA3 := Lib.hid (BA.out.fresh t3)
  have BB3 := Lib.hid bb
  clear t3 bb
  go_wp2_with fail
  refine (WO.out _ _ _ BB3.out).mono ?_
  rintro e w4 ⟨rfl, rfl⟩
  go_wp2_with fail
  refine (shr_ok la K N false HH.out.2.2.1 h0 (by omega) (by omega) BA3.out).mono ?_
  rintro e w5 ⟨v5, rfl, b5, t5⟩
  have WL := Lib.hid (word_ok (shrL la K false) (by rw [shrL_length la K N false HH.out.2.2.1 (by omega)]; exact hn) b5)
  have T5 := Lib.hid (T3.out.trans t5)
  have VV := Lib.hid (show wd (shrL la K false) = x % 2 ^ N / 2 ^ ((y % 2 ^ N) % N) by rw [wd_shr la K N HH.out.2.2.1 (by omega), HH.out.1, HK.out])
  clear b5 t5
  generalize wd (shrL la K false) = r at *
  go_wp2_with fail
  refine WL.out.mono ?_
  rintro e w6 ⟨rfl, rfl⟩
  go_wp2_with fail
  go_ret2
  exact ⟨by rw [← VV.out]; rfl, T5.out⟩
end
end Go.Proofs.Ytphhgmeokmemlaa
