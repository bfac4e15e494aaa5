/- The document's answer, op for op: product, shift with a sign, division without a sign. -/
import Derived.Test.YtphhgmeokmemlaaN7
namespace Go.Proofs.Ytphhgmeokmemlaa
open Go.RowKit Go.Maps
set_option linter.unusedSimpArgs false
set_option linter.unusedVariables false

section
variable (N x y : Nat) (h0 : 0 < N) (hn : N ≤ 64) (hx : x < 18446744073709551616) (hy : y < 18446744073709551616) (w : World)
include h0 hn hx hy

set_option maxRecDepth 100000 in
set_option maxHeartbeats 1000000 in
theorem ref_mul : Calls Try.prog 11 #[.int .i64 2, .int .i64 N, .int .u64 x, .int .u64 y] w (R2 ((x % 2 ^ N) * (y % 2 ^ N) % 2 ^ N) 0 w) := by
  have LA := Lib.hid (fun w => list_ok N x h0 hn hx w)
  have LB := Lib.hid (fun w => list_ok N y h0 hn hy w)
  have eN : IntKind.u64.wrap (N : Int) = (N : Int) := IntWalk.u64_in _ (by omega)
  have nN : ¬ (N : Int) = 0 := by omega
  have kK : (y % 2 ^ N) % N < N := Nat.mod_lt _ h0
  have hk : ((y % 2 ^ N : Nat) : Int) % (N : Int) = (((y % 2 ^ N) % N : Nat) : Int) := (Int.natCast_emod _ _).symm
  have KK := Lib.hid (show ∃ K, K = (y % 2 ^ N) % N from ⟨_, rfl⟩)
  obtain ⟨K, hK⟩ := KK.out
  rw [← hK] at hk kK
  have eK : IntKind.i64.wrap (K : Int) = (K : Int) := IntWalk.i64_in _ (by omega)
  have WA := wd_lst N x
  have WB := wd_lst N y
  have lA := lst_length N x
  have lB := lst_length N y
  have HK := Lib.hid hK
  have WO := fun (w : World) (v : Value) (B : Nat) (h : Bits w v (lst N y) B) => word_ok (lst N y) (by omega) h
  rw [WB] at WO
  obtain ⟨la, hla⟩ : ∃ l, l = lst N x := ⟨_, rfl⟩
  obtain ⟨lb, hlb⟩ : ∃ l, l = lst N y := ⟨_, rfl⟩
  rw [← hla] at WA lA
  rw [← hlb] at WB lB WO
  have HLA := hla.symm
  have HLB := hlb.symm
  have HH := Lib.hid (And.intro WA (And.intro WB (And.intro lA lB)))
  obtain ⟨Y, hY⟩ : ∃ Y, Y = y % 2 ^ N := ⟨_, rfl⟩
  rw [← hY] at WO hk
  have WO := Lib.hid WO
  have HY := Lib.hid hY
  clear hY
  have HLA2 := Lib.hid HLA
  have HLB2 := Lib.hid HLB
  clear WA WB lA lB hK hla hlb KK HLA HLB
  go_enter Try.func11, Try.ntmps11
  go_wp2_with fail
  refine (LA.out _).mono ?_
  rintro e w2 ⟨va, rfl, ba, t2⟩
  rw [HLA2.out] at ba
  have BA := Lib.hid ba
  have T2 := Lib.hid t2
  clear ba t2
  go_wp2_with fail
  refine (LB.out _).mono ?_
  rintro e w3 ⟨vb, rfl, bb, t3⟩
  rw [HLB2.out] at bb
  have T3 := Lib.hid (T2.out.trans t3)
  have BA3 := Lib.hid (BA.out.fresh t3)
  have BB3 := Lib.hid bb
  clear t3 bb
  go_wp2_with fail
  refine (WO.out _ _ _ BB3.out).mono ?_
  rintro e w4 ⟨rfl, rfl⟩
  go_wp2_with fail
  refine (mul_ok la lb N HH.out.2.2.1 HH.out.2.2.2 h0 (by omega) BA3.out BB3.out).mono ?_
  rintro e w5 ⟨v5, L, rfl, lL, wL, b5, t5⟩
  have WL := Lib.hid (word_ok L (by omega) b5)
  have T5 := Lib.hid (T3.out.trans t5)
  have VV := Lib.hid (show wd L = (x % 2 ^ N) * (y % 2 ^ N) % 2 ^ N by rw [wL, HH.out.1, HH.out.2.1])
  clear b5 t5 wL
  generalize wd L = r at *
  go_wp2_with fail
  refine WL.out.mono ?_
  rintro e w6 ⟨rfl, rfl⟩
  go_wp2_with fail
  go_ret2
  exact ⟨by rw [← VV.out]; rfl, T5.out⟩

set_option maxRecDepth 100000 in
set_option maxHeartbeats 1000000 in
theorem ref_sar (v : Nat) (hv : (if x / 2 ^ (N - 1) % 2 = 1 then x % 2 ^ N / 2 ^ ((y % 2 ^ N) % N) + (2 ^ N - 2 ^ (N - (y % 2 ^ N) % N)) else x % 2 ^ N / 2 ^ ((y % 2 ^ N) % N)) = v) : Calls Try.prog 11 #[.int .i64 11, .int .i64 N, .int .u64 x, .int .u64 y] w (R2 v 0 w) := by
  have HV := Lib.hid hv
  clear hv
  have LA := Lib.hid (fun w => list_ok N x h0 hn hx w)
  have LB := Lib.hid (fun w => list_ok N y h0 hn hy w)
  have eN : IntKind.u64.wrap (N : Int) = (N : Int) := IntWalk.u64_in _ (by omega)
  have nN : ¬ (N : Int) = 0 := by omega
  have kK : (y % 2 ^ N) % N < N := Nat.mod_lt _ h0
  have hk : ((y % 2 ^ N : Nat) : Int) % (N : Int) = (((y % 2 ^ N) % N : Nat) : Int) := (Int.natCast_emod _ _).symm
  have KK := Lib.hid (show ∃ K, K = (y % 2 ^ N) % N from ⟨_, rfl⟩)
  obtain ⟨K, hK⟩ := KK.out
  rw [← hK] at hk kK
  have eK : IntKind.i64.wrap (K : Int) = (K : Int) := IntWalk.i64_in _ (by omega)
  have WA := wd_lst N x
  have WB := wd_lst N y
  have lA := lst_length N x
  have lB := lst_length N y
  have HK := Lib.hid hK
  have WO := fun (w : World) (v : Value) (B : Nat) (h : Bits w v (lst N y) B) => word_ok (lst N y) (by omega) h
  rw [WB] at WO
  obtain ⟨la, hla⟩ : ∃ l, l = lst N x := ⟨_, rfl⟩
  obtain ⟨lb, hlb⟩ : ∃ l, l = lst N y := ⟨_, rfl⟩
  rw [← hla] at WA lA
  rw [← hlb] at WB lB WO
  have HLA := hla.symm
  have HLB := hlb.symm
  have HH := Lib.hid (And.intro WA (And.intro WB (And.intro lA lB)))
  obtain ⟨Y, hY⟩ : ∃ Y, Y = y % 2 ^ N := ⟨_, rfl⟩
  rw [← hY] at WO hk
  have WO := Lib.hid WO
  have HY := Lib.hid hY
  clear hY
  have HLA2 := Lib.hid HLA
  have HLB2 := Lib.hid HLB
  clear WA WB lA lB hK hla hlb KK HLA HLB
  go_enter Try.func11, Try.ntmps11
  go_wp2_with fail
  refine (LA.out _).mono ?_
  rintro e w2 ⟨va, rfl, ba, t2⟩
  rw [HLA2.out] at ba
  have BA := Lib.hid ba
  have T2 := Lib.hid t2
  clear ba t2
  go_wp2_with fail
  refine (LB.out _).mono ?_
  rintro e w3 ⟨vb, rfl, bb, t3⟩
  rw [HLB2.out] at bb
  have T3 := Lib.hid (T2.out.trans t3)
  have BA3 := Lib.hid (BA.out.fresh t3)
  have BB3 := Lib.hid bb
  clear t3 bb
  go_wp2_with fail
  refine (WO.out _ _ _ BB3.out).mono ?_
  rintro e w4 ⟨rfl, rfl⟩
  have hbx := BA3.out
  obtain ⟨g, cp, cur, hva, hB, hg, hc⟩ := hbx
  have hcell := bits_cell hg hc (N - 1) (by rw [HH.out.2.2.1]; omega)
  have lA := HH.out.2.2.1
  rw [lA] at hva
  subst hva
  clear hg hc hB lA
  have eN1 : IntKind.i64.wrap ((N : Int) - 1) = ((N - 1 : Nat) : Int) := by rw [IntWalk.i64_in _ (by omega)]; omega
  have tb : la.getD (N - 1) false = (x / 2 ^ (N - 1) % 2 == 1) := by rw [← HLA2.out]; exact lst_top N x h0
  have TB := Lib.hid tb
  generalize la.getD (N - 1) false = f at *
  clear tb
  have enK : IntKind.i64.wrap (-(K : Int)) = -(K : Int) := IntWalk.i64_in _ (by omega)
  go_wp2_with fail
  refine (shr_ok la K N f HH.out.2.2.1 h0 (by omega) (by omega) BA3.out).mono ?_
  rintro e w5 ⟨v5, rfl, b5, t5⟩
  have WL := Lib.hid (word_ok (shrL la K f) (by rw [shrL_length la K N f HH.out.2.2.1 (by omega)]; exact hn) b5)
  have T5 := Lib.hid (T3.out.trans t5)
  have VV := Lib.hid (show wd (shrL la K f) = v by
    rw [← HV.out, TB.out]
    by_cases ht : x / 2 ^ (N - 1) % 2 = 1
    · rw [if_pos ht, show (x / 2 ^ (N - 1) % 2 == 1) = true by simpa using ht, wd_sar la K N HH.out.2.2.1 (by omega), HH.out.1, HK.out]
    · rw [if_neg ht, show (x / 2 ^ (N - 1) % 2 == 1) = false by simpa using ht, wd_shr la K N HH.out.2.2.1 (by omega), HH.out.1, HK.out])
  clear b5 t5
  generalize wd (shrL la K f) = r at *
  go_wp2_with fail
  refine WL.out.mono ?_
  rintro e w6 ⟨rfl, rfl⟩
  go_wp2_with fail
  go_ret2
  exact ⟨by rw [← VV.out]; rfl, T5.out⟩

set_option maxRecDepth 100000 in
set_option maxHeartbeats 1000000 in
theorem ref_divs_zero (hz : y % 2 ^ N = 0) : Calls Try.prog 11 #[.int .i64 3, .int .i64 N, .int .u64 x, .int .u64 y] w (R2 0 2 w) := by
  have LA := Lib.hid (fun w => list_ok N x h0 hn hx w)
  have LB := Lib.hid (fun w => list_ok N y h0 hn hy w)
  have eN : IntKind.u64.wrap (N : Int) = (N : Int) := IntWalk.u64_in _ (by omega)
  have nN : ¬ (N : Int) = 0 := by omega
  have kK : (y % 2 ^ N) % N < N := Nat.mod_lt _ h0
  have hk : ((y % 2 ^ N : Nat) : Int) % (N : Int) = (((y % 2 ^ N) % N : Nat) : Int) := (Int.natCast_emod _ _).symm
  have KK := Lib.hid (show ∃ K, K = (y % 2 ^ N) % N from ⟨_, rfl⟩)
  obtain ⟨K, hK⟩ := KK.out
  rw [← hK] at hk kK
  have eK : IntKind.i64.wrap (K : Int) = (K : Int) := IntWalk.i64_in _ (by omega)
  have WA := wd_lst N x
  have WB := wd_lst N y
  have lA := lst_length N x
  have lB := lst_length N y
  have HK := Lib.hid hK
  have WO := fun (w : World) (v : Value) (B : Nat) (h : Bits w v (lst N y) B) => word_ok (lst N y) (by omega) h
  rw [WB] at WO
  obtain ⟨la, hla⟩ : ∃ l, l = lst N x := ⟨_, rfl⟩
  obtain ⟨lb, hlb⟩ : ∃ l, l = lst N y := ⟨_, rfl⟩
  rw [← hla] at WA lA
  rw [← hlb] at WB lB WO
  have HLA := hla.symm
  have HLB := hlb.symm
  have HH := Lib.hid (And.intro WA (And.intro WB (And.intro lA lB)))
  obtain ⟨Y, hY⟩ : ∃ Y, Y = y % 2 ^ N := ⟨_, rfl⟩
  rw [← hY] at WO hk
  have WO := Lib.hid WO
  have HY := Lib.hid hY
  clear hY
  have HLA2 := Lib.hid HLA
  have HLB2 := Lib.hid HLB
  clear WA WB lA lB hK hla hlb KK HLA HLB
  go_enter Try.func11, Try.ntmps11
  go_wp2_with fail
  refine (LA.out _).mono ?_
  rintro e w2 ⟨va, rfl, ba, t2⟩
  rw [HLA2.out] at ba
  have BA := Lib.hid ba
  have T2 := Lib.hid t2
  clear ba t2
  go_wp2_with fail
  refine (LB.out _).mono ?_
  rintro e w3 ⟨vb, rfl, bb, t3⟩
  rw [HLB2.out] at bb
  have T3 := Lib.hid (T2.out.trans t3)
  have BA3 := Lib.hid (BA.out.fresh t3)
  have BB3 := Lib.hid bb
  clear t3 bb
  go_wp2_with fail
  refine (WO.out _ _ _ BB3.out).mono ?_
  rintro e w4 ⟨rfl, rfl⟩
  go_wp2_with fail
  have ZR := zero_ok lb N HH.out.2.2.2 (by omega) BB3.out
  rw [show decide (wd lb = 0) = true by rw [HH.out.2.1, hz]; rfl] at ZR
  have ZR := Lib.hid ZR
  clear hz
  refine ZR.out.mono ?_
  rintro e w5 ⟨rfl, rfl⟩
  go_wp2_with fail
  go_ret2
  exact ⟨rfl, T3.out⟩

set_option maxRecDepth 100000 in
set_option maxHeartbeats 1000000 in
theorem ref_divu_zero (hz : y % 2 ^ N = 0) : Calls Try.prog 11 #[.int .i64 4, .int .i64 N, .int .u64 x, .int .u64 y] w (R2 0 2 w) := by
  have LA := Lib.hid (fun w => list_ok N x h0 hn hx w)
  have LB := Lib.hid (fun w => list_ok N y h0 hn hy w)
  have eN : IntKind.u64.wrap (N : Int) = (N : Int) := IntWalk.u64_in _ (by omega)
  have nN : ¬ (N : Int) = 0 := by omega
  have kK : (y % 2 ^ N) % N < N := Nat.mod_lt _ h0
  have hk : ((y % 2 ^ N : Nat) : Int) % (N : Int) = (((y % 2 ^ N) % N : Nat) : Int) := (Int.natCast_emod _ _).symm
  have KK := Lib.hid (show ∃ K, K = (y % 2 ^ N) % N from ⟨_, rfl⟩)
  obtain ⟨K, hK⟩ := KK.out
  rw [← hK] at hk kK
  have eK : IntKind.i64.wrap (K : Int) = (K : Int) := IntWalk.i64_in _ (by omega)
  have WA := wd_lst N x
  have WB := wd_lst N y
  have lA := lst_length N x
  have lB := lst_length N y
  have HK := Lib.hid hK
  have WO := fun (w : World) (v : Value) (B : Nat) (h : Bits w v (lst N y) B) => word_ok (lst N y) (by omega) h
  rw [WB] at WO
  obtain ⟨la, hla⟩ : ∃ l, l = lst N x := ⟨_, rfl⟩
  obtain ⟨lb, hlb⟩ : ∃ l, l = lst N y := ⟨_, rfl⟩
  rw [← hla] at WA lA
  rw [← hlb] at WB lB WO
  have HLA := hla.symm
  have HLB := hlb.symm
  have HH := Lib.hid (And.intro WA (And.intro WB (And.intro lA lB)))
  obtain ⟨Y, hY⟩ : ∃ Y, Y = y % 2 ^ N := ⟨_, rfl⟩
  rw [← hY] at WO hk
  have WO := Lib.hid WO
  have HY := Lib.hid hY
  clear hY
  have HLA2 := Lib.hid HLA
  have HLB2 := Lib.hid HLB
  clear WA WB lA lB hK hla hlb KK HLA HLB
  go_enter Try.func11, Try.ntmps11
  go_wp2_with fail
  refine (LA.out _).mono ?_
  rintro e w2 ⟨va, rfl, ba, t2⟩
  rw [HLA2.out] at ba
  have BA := Lib.hid ba
  have T2 := Lib.hid t2
  clear ba t2
  go_wp2_with fail
  refine (LB.out _).mono ?_
  rintro e w3 ⟨vb, rfl, bb, t3⟩
  rw [HLB2.out] at bb
  have T3 := Lib.hid (T2.out.trans t3)
  have BA3 := Lib.hid (BA.out.fresh t3)
  have BB3 := Lib.hid bb
  clear t3 bb
  go_wp2_with fail
  refine (WO.out _ _ _ BB3.out).mono ?_
  rintro e w4 ⟨rfl, rfl⟩
  go_wp2_with fail
  have ZR := zero_ok lb N HH.out.2.2.2 (by omega) BB3.out
  rw [show decide (wd lb = 0) = true by rw [HH.out.2.1, hz]; rfl] at ZR
  have ZR := Lib.hid ZR
  clear hz
  refine ZR.out.mono ?_
  rintro e w5 ⟨rfl, rfl⟩
  go_wp2_with fail
  go_ret2
  exact ⟨rfl, T3.out⟩

set_option maxRecDepth 100000 in
set_option maxHeartbeats 1000000 in
theorem ref_rems_zero (hz : y % 2 ^ N = 0) : Calls Try.prog 11 #[.int .i64 5, .int .i64 N, .int .u64 x, .int .u64 y] w (R2 0 2 w) := by
  have LA := Lib.hid (fun w => list_ok N x h0 hn hx w)
  have LB := Lib.hid (fun w => list_ok N y h0 hn hy w)
  have eN : IntKind.u64.wrap (N : Int) = (N : Int) := IntWalk.u64_in _ (by omega)
  have nN : ¬ (N : Int) = 0 := by omega
  have kK : (y % 2 ^ N) % N < N := Nat.mod_lt _ h0
  have hk : ((y % 2 ^ N : Nat) : Int) % (N : Int) = (((y % 2 ^ N) % N : Nat) : Int) := (Int.natCast_emod _ _).symm
  have KK := Lib.hid (show ∃ K, K = (y % 2 ^ N) % N from ⟨_, rfl⟩)
  obtain ⟨K, hK⟩ := KK.out
  rw [← hK] at hk kK
  have eK : IntKind.i64.wrap (K : Int) = (K : Int) := IntWalk.i64_in _ (by omega)
  have WA := wd_lst N x
  have WB := wd_lst N y
  have lA := lst_length N x
  have lB := lst_length N y
  have HK := Lib.hid hK
  have WO := fun (w : World) (v : Value) (B : Nat) (h : Bits w v (lst N y) B) => word_ok (lst N y) (by omega) h
  rw [WB] at WO
  obtain ⟨la, hla⟩ : ∃ l, l = lst N x := ⟨_, rfl⟩
  obtain ⟨lb, hlb⟩ : ∃ l, l = lst N y := ⟨_, rfl⟩
  rw [← hla] at WA lA
  rw [← hlb] at WB lB WO
  have HLA := hla.symm
  have HLB := hlb.symm
  have HH := Lib.hid (And.intro WA (And.intro WB (And.intro lA lB)))
  obtain ⟨Y, hY⟩ : ∃ Y, Y = y % 2 ^ N := ⟨_, rfl⟩
  rw [← hY] at WO hk
  have WO := Lib.hid WO
  have HY := Lib.hid hY
  clear hY
  have HLA2 := Lib.hid HLA
  have HLB2 := Lib.hid HLB
  clear WA WB lA lB hK hla hlb KK HLA HLB
  go_enter Try.func11, Try.ntmps11
  go_wp2_with fail
  refine (LA.out _).mono ?_
  rintro e w2 ⟨va, rfl, ba, t2⟩
  rw [HLA2.out] at ba
  have BA := Lib.hid ba
  have T2 := Lib.hid t2
  clear ba t2
  go_wp2_with fail
  refine (LB.out _).mono ?_
  rintro e w3 ⟨vb, rfl, bb, t3⟩
  rw [HLB2.out] at bb
  have T3 := Lib.hid (T2.out.trans t3)
  have BA3 := Lib.hid (BA.out.fresh t3)
  have BB3 := Lib.hid bb
  clear t3 bb
  go_wp2_with fail
  refine (WO.out _ _ _ BB3.out).mono ?_
  rintro e w4 ⟨rfl, rfl⟩
  go_wp2_with fail
  have ZR := zero_ok lb N HH.out.2.2.2 (by omega) BB3.out
  rw [show decide (wd lb = 0) = true by rw [HH.out.2.1, hz]; rfl] at ZR
  have ZR := Lib.hid ZR
  clear hz
  refine ZR.out.mono ?_
  rintro e w5 ⟨rfl, rfl⟩
  go_wp2_with fail
  go_ret2
  exact ⟨rfl, T3.out⟩

set_option maxRecDepth 100000 in
set_option maxHeartbeats 1000000 in
theorem ref_remu_zero (hz : y % 2 ^ N = 0) : Calls Try.prog 11 #[.int .i64 6, .int .i64 N, .int .u64 x, .int .u64 y] w (R2 0 2 w) := by
  have LA := Lib.hid (fun w => list_ok N x h0 hn hx w)
  have LB := Lib.hid (fun w => list_ok N y h0 hn hy w)
  have eN : IntKind.u64.wrap (N : Int) = (N : Int) := IntWalk.u64_in _ (by omega)
  have nN : ¬ (N : Int) = 0 := by omega
  have kK : (y % 2 ^ N) % N < N := Nat.mod_lt _ h0
  have hk : ((y % 2 ^ N : Nat) : Int) % (N : Int) = (((y % 2 ^ N) % N : Nat) : Int) := (Int.natCast_emod _ _).symm
  have KK := Lib.hid (show ∃ K, K = (y % 2 ^ N) % N from ⟨_, rfl⟩)
  obtain ⟨K, hK⟩ := KK.out
  rw [← hK] at hk kK
  have eK : IntKind.i64.wrap (K : Int) = (K : Int) := IntWalk.i64_in _ (by omega)
  have WA := wd_lst N x
  have WB := wd_lst N y
  have lA := lst_length N x
  have lB := lst_length N y
  have HK := Lib.hid hK
  have WO := fun (w : World) (v : Value) (B : Nat) (h : Bits w v (lst N y) B) => word_ok (lst N y) (by omega) h
  rw [WB] at WO
  obtain ⟨la, hla⟩ : ∃ l, l = lst N x := ⟨_, rfl⟩
  obtain ⟨lb, hlb⟩ : ∃ l, l = lst N y := ⟨_, rfl⟩
  rw [← hla] at WA lA
  rw [← hlb] at WB lB WO
  have HLA := hla.symm
  have HLB := hlb.symm
  have HH := Lib.hid (And.intro WA (And.intro WB (And.intro lA lB)))
  obtain ⟨Y, hY⟩ : ∃ Y, Y = y % 2 ^ N := ⟨_, rfl⟩
  rw [← hY] at WO hk
  have WO := Lib.hid WO
  have HY := Lib.hid hY
  clear hY
  have HLA2 := Lib.hid HLA
  have HLB2 := Lib.hid HLB
  clear WA WB lA lB hK hla hlb KK HLA HLB
  go_enter Try.func11, Try.ntmps11
  go_wp2_with fail
  refine (LA.out _).mono ?_
  rintro e w2 ⟨va, rfl, ba, t2⟩
  rw [HLA2.out] at ba
  have BA := Lib.hid ba
  have T2 := Lib.hid t2
  clear ba t2
  go_wp2_with fail
  refine (LB.out _).mono ?_
  rintro e w3 ⟨vb, rfl, bb, t3⟩
  rw [HLB2.out] at bb
  have T3 := Lib.hid (T2.out.trans t3)
  have BA3 := Lib.hid (BA.out.fresh t3)
  have BB3 := Lib.hid bb
  clear t3 bb
  go_wp2_with fail
  refine (WO.out _ _ _ BB3.out).mono ?_
  rintro e w4 ⟨rfl, rfl⟩
  go_wp2_with fail
  have ZR := zero_ok lb N HH.out.2.2.2 (by omega) BB3.out
  rw [show decide (wd lb = 0) = true by rw [HH.out.2.1, hz]; rfl] at ZR
  have ZR := Lib.hid ZR
  clear hz
  refine ZR.out.mono ?_
  rintro e w5 ⟨rfl, rfl⟩
  go_wp2_with fail
  go_ret2
  exact ⟨rfl, T3.out⟩

set_option maxRecDepth 100000 in
set_option maxHeartbeats 1000000 in
theorem ref_divu (hz : y % 2 ^ N ≠ 0) : Calls Try.prog 11 #[.int .i64 4, .int .i64 N, .int .u64 x, .int .u64 y] w (R2 ((x % 2 ^ N) / (y % 2 ^ N)) 0 w) := by
  have LA := Lib.hid (fun w => list_ok N x h0 hn hx w)
  have LB := Lib.hid (fun w => list_ok N y h0 hn hy w)
  have eN : IntKind.u64.wrap (N : Int) = (N : Int) := IntWalk.u64_in _ (by omega)
  have nN : ¬ (N : Int) = 0 := by omega
  have kK : (y % 2 ^ N) % N < N := Nat.mod_lt _ h0
  have hk : ((y % 2 ^ N : Nat) : Int) % (N : Int) = (((y % 2 ^ N) % N : Nat) : Int) := (Int.natCast_emod _ _).symm
  have KK := Lib.hid (show ∃ K, K = (y % 2 ^ N) % N from ⟨_, rfl⟩)
  obtain ⟨K, hK⟩ := KK.out
  rw [← hK] at hk kK
  have eK : IntKind.i64.wrap (K : Int) = (K : Int) := IntWalk.i64_in _ (by omega)
  have WA := wd_lst N x
  have WB := wd_lst N y
  have lA := lst_length N x
  have lB := lst_length N y
  have HK := Lib.hid hK
  have WO := fun (w : World) (v : Value) (B : Nat) (h : Bits w v (lst N y) B) => word_ok (lst N y) (by omega) h
  rw [WB] at WO
  obtain ⟨la, hla⟩ : ∃ l, l = lst N x := ⟨_, rfl⟩
  obtain ⟨lb, hlb⟩ : ∃ l, l = lst N y := ⟨_, rfl⟩
  rw [← hla] at WA lA
  rw [← hlb] at WB lB WO
  have HLA := hla.symm
  have HLB := hlb.symm
  have HH := Lib.hid (And.intro WA (And.intro WB (And.intro lA lB)))
  obtain ⟨Y, hY⟩ : ∃ Y, Y = y % 2 ^ N := ⟨_, rfl⟩
  rw [← hY] at WO hk
  have WO := Lib.hid WO
  have HY := Lib.hid hY
  clear hY
  have HLA2 := Lib.hid HLA
  have HLB2 := Lib.hid HLB
  clear WA WB lA lB hK hla hlb KK HLA HLB
  go_enter Try.func11, Try.ntmps11
  go_wp2_with fail
  refine (LA.out _).mono ?_
  rintro e w2 ⟨va, rfl, ba, t2⟩
  rw [HLA2.out] at ba
  have BA := Lib.hid ba
  have T2 := Lib.hid t2
  clear ba t2
  go_wp2_with fail
  refine (LB.out _).mono ?_
  rintro e w3 ⟨vb, rfl, bb, t3⟩
  rw [HLB2.out] at bb
  have T3 := Lib.hid (T2.out.trans t3)
  have BA3 := Lib.hid (BA.out.fresh t3)
  have BB3 := Lib.hid bb
  clear t3 bb
  go_wp2_with fail
  refine (WO.out _ _ _ BB3.out).mono ?_
  rintro e w4 ⟨rfl, rfl⟩
  go_wp2_with fail
  have hz2 : wd lb ≠ 0 := by rw [HH.out.2.1]; exact hz
  have ZR := zero_ok lb N HH.out.2.2.2 (by omega) BB3.out
  rw [show decide (wd lb = 0) = false by simpa using hz2] at ZR
  have ZR := Lib.hid ZR
  have DV := Lib.hid (fun q => divide_ok la lb N HH.out.2.2.1 HH.out.2.2.2 h0 (by omega) hz2 (BA3.out.fresh (Touch.drewN _ _ q)) (BB3.out.fresh (Touch.drewN _ _ q)))
  clear hz hz2
  refine ZR.out.mono ?_
  rintro e w5 ⟨rfl, rfl⟩
  go_wp2_with fail
  go_quiet (fail)
  go_wp2_with fail
  refine (DV.out _).mono ?_
  rintro e w6 ⟨v6, u6, Q, R, rfl, lQ, lR, wQ, wR, bQ, bR, t6⟩
  have WL := Lib.hid (word_ok Q (by omega) bQ)
  have T6 := Lib.hid ((T3.out.trans (Touch.drewN _ _ nq)).trans t6)
  have VV := Lib.hid (show wd Q = (x % 2 ^ N) / (y % 2 ^ N) by rw [wQ, HH.out.1, HH.out.2.1])
  clear bQ bR t6 wQ wR
  generalize wd Q = r at *
  go_wp2_with fail
  refine WL.out.mono ?_
  rintro e w7 ⟨rfl, rfl⟩
  go_wp2_with fail
  go_ret2
  exact ⟨by rw [← VV.out]; rfl, T6.out⟩

set_option maxRecDepth 100000 in
set_option maxHeartbeats 1000000 in
theorem ref_remu (hz : y % 2 ^ N ≠ 0) : Calls Try.prog 11 #[.int .i64 6, .int .i64 N, .int .u64 x, .int .u64 y] w (R2 ((x % 2 ^ N) % (y % 2 ^ N)) 0 w) := by
  have LA := Lib.hid (fun w => list_ok N x h0 hn hx w)
  have LB := Lib.hid (fun w => list_ok N y h0 hn hy w)
  have eN : IntKind.u64.wrap (N : Int) = (N : Int) := IntWalk.u64_in _ (by omega)
  have nN : ¬ (N : Int) = 0 := by omega
  have kK : (y % 2 ^ N) % N < N := Nat.mod_lt _ h0
  have hk : ((y % 2 ^ N : Nat) : Int) % (N : Int) = (((y % 2 ^ N) % N : Nat) : Int) := (Int.natCast_emod _ _).symm
  have KK := Lib.hid (show ∃ K, K = (y % 2 ^ N) % N from ⟨_, rfl⟩)
  obtain ⟨K, hK⟩ := KK.out
  rw [← hK] at hk kK
  have eK : IntKind.i64.wrap (K : Int) = (K : Int) := IntWalk.i64_in _ (by omega)
  have WA := wd_lst N x
  have WB := wd_lst N y
  have lA := lst_length N x
  have lB := lst_length N y
  have HK := Lib.hid hK
  have WO := fun (w : World) (v : Value) (B : Nat) (h : Bits w v (lst N y) B) => word_ok (lst N y) (by omega) h
  rw [WB] at WO
  obtain ⟨la, hla⟩ : ∃ l, l = lst N x := ⟨_, rfl⟩
  obtain ⟨lb, hlb⟩ : ∃ l, l = lst N y := ⟨_, rfl⟩
  rw [← hla] at WA lA
  rw [← hlb] at WB lB WO
  have HLA := hla.symm
  have HLB := hlb.symm
  have HH := Lib.hid (And.intro WA (And.intro WB (And.intro lA lB)))
  obtain ⟨Y, hY⟩ : ∃ Y, Y = y % 2 ^ N := ⟨_, rfl⟩
  rw [← hY] at WO hk
  have WO := Lib.hid WO
  have HY := Lib.hid hY
  clear hY
  have HLA2 := Lib.hid HLA
  have HLB2 := Lib.hid HLB
  clear WA WB lA lB hK hla hlb KK HLA HLB
  go_enter Try.func11, Try.ntmps11
  go_wp2_with fail
  refine (LA.out _).mono ?_
  rintro e w2 ⟨va, rfl, ba, t2⟩
  rw [HLA2.out] at ba
  have BA := Lib.hid ba
  have T2 := Lib.hid t2
  clear ba t2
  go_wp2_with fail
  refine (LB.out _).mono ?_
  rintro e w3 ⟨vb, rfl, bb, t3⟩
  rw [HLB2.out] at bb
  have T3 := Lib.hid (T2.out.trans t3)
  have BA3 := Lib.hid (BA.out.fresh t3)
  have BB3 := Lib.hid bb
  clear t3 bb
  go_wp2_with fail
  refine (WO.out _ _ _ BB3.out).mono ?_
  rintro e w4 ⟨rfl, rfl⟩
  go_wp2_with fail
  have hz2 : wd lb ≠ 0 := by rw [HH.out.2.1]; exact hz
  have ZR := zero_ok lb N HH.out.2.2.2 (by omega) BB3.out
  rw [show decide (wd lb = 0) = false by simpa using hz2] at ZR
  have ZR := Lib.hid ZR
  have DV := Lib.hid (fun q => divide_ok la lb N HH.out.2.2.1 HH.out.2.2.2 h0 (by omega) hz2 (BA3.out.fresh (Touch.drewN _ _ q)) (BB3.out.fresh (Touch.drewN _ _ q)))
  clear hz hz2
  refine ZR.out.mono ?_
  rintro e w5 ⟨rfl, rfl⟩
  go_wp2_with fail
  go_quiet (fail)
  go_wp2_with fail
  refine (DV.out _).mono ?_
  rintro e w6 ⟨v6, u6, Q, R, rfl, lQ, lR, wQ, wR, bQ, bR, t6⟩
  have WL := Lib.hid (word_ok R (by omega) bR)
  have T6 := Lib.hid ((T3.out.trans (Touch.drewN _ _ nq)).trans t6)
  have VV := Lib.hid (show wd R = (x % 2 ^ N) % (y % 2 ^ N) by rw [wR, HH.out.1, HH.out.2.1])
  clear bQ bR t6 wQ wR
  generalize wd R = r at *
  go_wp2_with fail
  refine WL.out.mono ?_
  rintro e w7 ⟨rfl, rfl⟩
  go_wp2_with fail
  go_ret2
  exact ⟨by rw [← VV.out]; rfl, T6.out⟩
end
end Go.Proofs.Ytphhgmeokmemlaa
