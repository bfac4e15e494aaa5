/- The document's answer, op for op: division with a sign. -/
import Derived.Test.YtphhgmeokmemlaaN8
namespace Go.Proofs.Ytphhgmeokmemlaa
open Go.RowKit Go.Maps
set_option linter.unusedSimpArgs false
set_option linter.unusedVariables false

section
variable (N x y : Nat) (h0 : 0 < N) (hn : N ≤ 64) (hx : x < 18446744073709551616) (hy : y < 18446744073709551616) (w : World)
include h0 hn hx hy

set_option maxRecDepth 100000 in
set_option maxHeartbeats 2000000 in
theorem ref_rems_ff (hta : x / 2 ^ (N - 1) % 2 = 0) (htb : y / 2 ^ (N - 1) % 2 = 0) (hz : y % 2 ^ N ≠ 0) (hz' : y % 2 ^ N ≠ 0) (v : Nat) (hv : ((x % 2 ^ N) % (y % 2 ^ N)) = v) : Calls Try.prog 11 #[.int .i64 5, .int .i64 N, .int .u64 x, .int .u64 y] w (R2 v 0 w) := by
  have HV := Lib.hid hv
  have HZ' := Lib.hid hz'
  clear hv hz'
  have LA := Lib.hid (fun w => list_ok N x h0 hn hx w)
  have LB := Lib.hid (fun w => list_ok N y h0 hn hy w)
  have eN : IntKind.u64.wrap (N : Int) = (N : Int) := IntWalk.u64_in _ (by omega)
  have nN : ¬ (N : Int) = 0 := by omega
  have kK : (y % 2 ^ N) % N < N := Nat.mod_lt _ h0
  have hk : ((y % 2 ^ N : Nat) : Int) % (N : Int) = (((y % 2 ^ N) % N : Nat) : Int) := (Int.natCast_emod _ _).symm
  have KK := Lib.hid (show ∃ K, K = (y % 2 ^ N) % N from ⟨_, rfl⟩)
  obtain ⟨K, hK⟩ := KK.out
  rw [← hK] at hk kK
  have eK : IntKind.i64.wrap (K : Int) = (K : Int) := IntWalk.i64_in _ (by omega)
  have WA := wd_lst N x
  have WB := wd_lst N y
  have lA := lst_length N x
  have lB := lst_length N y
  have HK := Lib.hid hK
  have WO := fun (w : World) (v : Value) (B : Nat) (h : Bits w v (lst N y) B) => word_ok (lst N y) (by omega) h
  rw [WB] at WO
  obtain ⟨la, hla⟩ : ∃ l, l = lst N x := ⟨_, rfl⟩
  obtain ⟨lb, hlb⟩ : ∃ l, l = lst N y := ⟨_, rfl⟩
  rw [← hla] at WA lA
  rw [← hlb] at WB lB WO
  have HLA := hla.symm
  have HLB := hlb.symm
  have HH := Lib.hid (And.intro WA (And.intro WB (And.intro lA lB)))
  obtain ⟨Y, hY⟩ : ∃ Y, Y = y % 2 ^ N := ⟨_, rfl⟩
  rw [← hY] at WO hk
  have WO := Lib.hid WO
  have HY := Lib.hid hY
  clear hY
  have HLA2 := Lib.hid HLA
  have HLB2 := Lib.hid HLB
  clear WA WB lA lB hK hla hlb KK HLA HLB
  go_enter Try.func11, Try.ntmps11
  go_wp2_with fail
  refine (LA.out _).mono ?_
  rintro e w2 ⟨va, rfl, ba, t2⟩
  rw [HLA2.out] at ba
  have BA := Lib.hid ba
  have T2 := Lib.hid t2
  clear ba t2
  go_wp2_with fail
  refine (LB.out _).mono ?_
  rintro e w3 ⟨vb, rfl, bb, t3⟩
  rw [HLB2.out] at bb
  have T3 := Lib.hid (T2.out.trans t3)
  have BA3 := Lib.hid (BA.out.fresh t3)
  have BB3 := Lib.hid bb
  clear t3 bb
  go_wp2_with fail
  refine (WO.out _ _ _ BB3.out).mono ?_
  rintro e w4 ⟨rfl, rfl⟩
  have hbx := BA3.out
  obtain ⟨g, cp, cur, hva, hB, hg, hc⟩ := hbx
  have hcell := bits_cell hg hc (N - 1) (by rw [HH.out.2.2.1]; omega)
  have lA := HH.out.2.2.1
  rw [lA] at hva
  subst hva
  clear hg hc hB lA
  have hbx := BB3.out
  obtain ⟨g2, cp2, cur2, hva, hB, hg, hc⟩ := hbx
  have hcell2 := bits_cell hg hc (N - 1) (by rw [HH.out.2.2.2]; omega)
  have lB := HH.out.2.2.2
  rw [lB] at hva
  subst hva
  clear hg hc hB lB
  have eN1 : IntKind.i64.wrap ((N : Int) - 1) = ((N - 1 : Nat) : Int) := by rw [IntWalk.i64_in _ (by omega)]; omega
  have tb : la.getD (N - 1) false = false := by rw [← HLA2.out, lst_top N x h0]; simp [hta]
  have tb2 : lb.getD (N - 1) false = false := by rw [← HLB2.out, lst_top N y h0]; simp [htb]
  rw [tb] at hcell
  rw [tb2] at hcell2
  clear tb tb2 hta htb
  have hz2 : wd lb ≠ 0 := by rw [HH.out.2.1]; exact hz
  have ZR := zero_ok lb N HH.out.2.2.2 (by omega) BB3.out
  rw [show decide (wd lb = 0) = false by simpa using hz2] at ZR
  have ZR := Lib.hid ZR
  clear hz2 hz
  go_wp2_with fail
  refine ZR.out.mono ?_
  rintro e w5 ⟨rfl, rfl⟩
  go_wp2_with fail
  go_quiet (fail)
  have T4 := Lib.hid (T3.out.trans (Touch.drewN _ w3 nq))
  have BA4 := Lib.hid (BA3.out.fresh (Touch.drewN _ w3 nq))
  have BB4 := Lib.hid (BB3.out.fresh (Touch.drewN _ w3 nq))
  have hLa : Hid ((la).length = N ∧ wd (la) = x % 2 ^ N) := Lib.hid ⟨HH.out.2.2.1, by exact HH.out.1⟩
  have hLb : Hid ((lb).length = N ∧ wd (lb) = y % 2 ^ N) := Lib.hid ⟨HH.out.2.2.2, by exact HH.out.2.1⟩
  go_wp2_with fail
  refine (divide_ok (la) (lb) N hLa.out.1 hLb.out.1 h0 (by omega) (by rw [hLb.out.2]; exact HZ'.out) BA4.out BB4.out).mono ?_
  rintro e w6 ⟨v6, u6, Q, R, rfl, lQ, lR, wQ, wR, bQ, bR, t6⟩
  have T7 := Lib.hid (T4.out.trans t6)
  have BQ := Lib.hid bQ
  have BR := Lib.hid bR
  have WQ := Lib.hid (show wd Q = ((x % 2 ^ N) / (y % 2 ^ N)) by rw [wQ, hLa.out.2, hLb.out.2])
  have WR := Lib.hid (show wd R = ((x % 2 ^ N) % (y % 2 ^ N)) by rw [wR, hLa.out.2, hLb.out.2])
  have LQ := Lib.hid (And.intro lQ lR)
  clear bQ bR t6 wQ wR lQ lR
  have WL := Lib.hid (word_ok (R) (by rw [LQ.out.2]; exact hn) BR.out)
  have VV := Lib.hid (show wd (R) = v by rw [WR.out]; exact HV.out)
  generalize wd (R) = r at *
  go_wp2_with fail
  refine WL.out.mono ?_
  rintro e w9 ⟨rfl, rfl⟩
  go_wp2_with fail
  go_ret2
  exact ⟨by rw [← VV.out]; rfl, T7.out⟩

set_option maxRecDepth 100000 in
set_option maxHeartbeats 2000000 in
theorem ref_divs_ff_o (hta : x / 2 ^ (N - 1) % 2 = 0) (htb : y / 2 ^ (N - 1) % 2 = 0) (hz : y % 2 ^ N ≠ 0) (hz' : y % 2 ^ N ≠ 0) (hov : ((x % 2 ^ N) / (y % 2 ^ N)) / 2 ^ (N - 1) % 2 = 1) (v : Nat) (hv : 0 = v) : Calls Try.prog 11 #[.int .i64 3, .int .i64 N, .int .u64 x, .int .u64 y] w (R2 v 3 w) := by
  have HV := Lib.hid hv
  have HZ' := Lib.hid hz'
  clear hv hz'
  have HOV := Lib.hid hov
  clear hov
  have LA := Lib.hid (fun w => list_ok N x h0 hn hx w)
  have LB := Lib.hid (fun w => list_ok N y h0 hn hy w)
  have eN : IntKind.u64.wrap (N : Int) = (N : Int) := IntWalk.u64_in _ (by omega)
  have nN : ¬ (N : Int) = 0 := by omega
  have kK : (y % 2 ^ N) % N < N := Nat.mod_lt _ h0
  have hk : ((y % 2 ^ N : Nat) : Int) % (N : Int) = (((y % 2 ^ N) % N : Nat) : Int) := (Int.natCast_emod _ _).symm
  have KK := Lib.hid (show ∃ K, K = (y % 2 ^ N) % N from ⟨_, rfl⟩)
  obtain ⟨K, hK⟩ := KK.out
  rw [← hK] at hk kK
  have eK : IntKind.i64.wrap (K : Int) = (K : Int) := IntWalk.i64_in _ (by omega)
  have WA := wd_lst N x
  have WB := wd_lst N y
  have lA := lst_length N x
  have lB := lst_length N y
  have HK := Lib.hid hK
  have WO := fun (w : World) (v : Value) (B : Nat) (h : Bits w v (lst N y) B) => word_ok (lst N y) (by omega) h
  rw [WB] at WO
  obtain ⟨la, hla⟩ : ∃ l, l = lst N x := ⟨_, rfl⟩
  obtain ⟨lb, hlb⟩ : ∃ l, l = lst N y := ⟨_, rfl⟩
  rw [← hla] at WA lA
  rw [← hlb] at WB lB WO
  have HLA := hla.symm
  have HLB := hlb.symm
  have HH := Lib.hid (And.intro WA (And.intro WB (And.intro lA lB)))
  obtain ⟨Y, hY⟩ : ∃ Y, Y = y % 2 ^ N := ⟨_, rfl⟩
  rw [← hY] at WO hk
  have WO := Lib.hid WO
  have HY := Lib.hid hY
  clear hY
  have HLA2 := Lib.hid HLA
  have HLB2 := Lib.hid HLB
  clear WA WB lA lB hK hla hlb KK HLA HLB
  go_enter Try.func11, Try.ntmps11
  go_wp2_with fail
  refine (LA.out _).mono ?_
  rintro e w2 ⟨va, rfl, ba, t2⟩
  rw [HLA2.out] at ba
  have BA := Lib.hid ba
  have T2 := Lib.hid t2
  clear ba t2
  go_wp2_with fail
  refine (LB.out _).mono ?_
  rintro e w3 ⟨vb, rfl, bb, t3⟩
  rw [HLB2.out] at bb
  have T3 := Lib.hid (T2.out.trans t3)
  have BA3 := Lib.hid (BA.out.fresh t3)
  have BB3 := Lib.hid bb
  clear t3 bb
  go_wp2_with fail
  refine (WO.out _ _ _ BB3.out).mono ?_
  rintro e w4 ⟨rfl, rfl⟩
  have hbx := BA3.out
  obtain ⟨g, cp, cur, hva, hB, hg, hc⟩ := hbx
  have hcell := bits_cell hg hc (N - 1) (by rw [HH.out.2.2.1]; omega)
  have lA := HH.out.2.2.1
  rw [lA] at hva
  subst hva
  clear hg hc hB lA
  have hbx := BB3.out
  obtain ⟨g2, cp2, cur2, hva, hB, hg, hc⟩ := hbx
  have hcell2 := bits_cell hg hc (N - 1) (by rw [HH.out.2.2.2]; omega)
  have lB := HH.out.2.2.2
  rw [lB] at hva
  subst hva
  clear hg hc hB lB
  have eN1 : IntKind.i64.wrap ((N : Int) - 1) = ((N - 1 : Nat) : Int) := by rw [IntWalk.i64_in _ (by omega)]; omega
  have tb : la.getD (N - 1) false = false := by rw [← HLA2.out, lst_top N x h0]; simp [hta]
  have tb2 : lb.getD (N - 1) false = false := by rw [← HLB2.out, lst_top N y h0]; simp [htb]
  rw [tb] at hcell
  rw [tb2] at hcell2
  clear tb tb2 hta htb
  have hz2 : wd lb ≠ 0 := by rw [HH.out.2.1]; exact hz
  have ZR := zero_ok lb N HH.out.2.2.2 (by omega) BB3.out
  rw [show decide (wd lb = 0) = false by simpa using hz2] at ZR
  have ZR := Lib.hid ZR
  clear hz2 hz
  go_wp2_with fail
  refine ZR.out.mono ?_
  rintro e w5 ⟨rfl, rfl⟩
  go_wp2_with fail
  go_quiet (fail)
  have T4 := Lib.hid (T3.out.trans (Touch.drewN _ w3 nq))
  have BA4 := Lib.hid (BA3.out.fresh (Touch.drewN _ w3 nq))
  have BB4 := Lib.hid (BB3.out.fresh (Touch.drewN _ w3 nq))
  have hLa : Hid ((la).length = N ∧ wd (la) = x % 2 ^ N) := Lib.hid ⟨HH.out.2.2.1, by exact HH.out.1⟩
  have hLb : Hid ((lb).length = N ∧ wd (lb) = y % 2 ^ N) := Lib.hid ⟨HH.out.2.2.2, by exact HH.out.2.1⟩
  go_wp2_with fail
  refine (divide_ok (la) (lb) N hLa.out.1 hLb.out.1 h0 (by omega) (by rw [hLb.out.2]; exact HZ'.out) BA4.out BB4.out).mono ?_
  rintro e w6 ⟨v6, u6, Q, R, rfl, lQ, lR, wQ, wR, bQ, bR, t6⟩
  have T7 := Lib.hid (T4.out.trans t6)
  have BQ := Lib.hid bQ
  have BR := Lib.hid bR
  have WQ := Lib.hid (show wd Q = ((x % 2 ^ N) / (y % 2 ^ N)) by rw [wQ, hLa.out.2, hLb.out.2])
  have WR := Lib.hid (show wd R = ((x % 2 ^ N) % (y % 2 ^ N)) by rw [wR, hLa.out.2, hLb.out.2])
  have LQ := Lib.hid (And.intro lQ lR)
  clear bQ bR t6 wQ wR lQ lR
  have hbx := BQ.out
  obtain ⟨g7, cp7, cur7, hv7, hB7, hg7, hc7⟩ := hbx
  have hcell7 := bits_cell hg7 hc7 (N - 1) (by rw [LQ.out.1]; omega)
  have tq : Q.getD (N - 1) false = true := by
    rw [← wd_bit, WQ.out, Nat.testBit_eq_decide_div_mod_eq, HOV.out]; rfl
  rw [tq] at hcell7
  have lQ := LQ.out.1
  rw [lQ] at hv7
  subst hv7
  clear hg7 hc7 hB7 tq lQ
  go_wp2_with fail
  go_ret2
  exact ⟨by rw [← HV.out]; rfl, T7.out⟩

set_option maxRecDepth 100000 in
set_option maxHeartbeats 2000000 in
theorem ref_divs_ff_n (hta : x / 2 ^ (N - 1) % 2 = 0) (htb : y / 2 ^ (N - 1) % 2 = 0) (hz : y % 2 ^ N ≠ 0) (hz' : y % 2 ^ N ≠ 0) (hov : ((x % 2 ^ N) / (y % 2 ^ N)) / 2 ^ (N - 1) % 2 = 0) (v : Nat) (hv : ((x % 2 ^ N) / (y % 2 ^ N)) = v) : Calls Try.prog 11 #[.int .i64 3, .int .i64 N, .int .u64 x, .int .u64 y] w (R2 v 0 w) := by
  have HV := Lib.hid hv
  have HZ' := Lib.hid hz'
  clear hv hz'
  have HOV := Lib.hid hov
  clear hov
  have LA := Lib.hid (fun w => list_ok N x h0 hn hx w)
  have LB := Lib.hid (fun w => list_ok N y h0 hn hy w)
  have eN : IntKind.u64.wrap (N : Int) = (N : Int) := IntWalk.u64_in _ (by omega)
  have nN : ¬ (N : Int) = 0 := by omega
  have kK : (y % 2 ^ N) % N < N := Nat.mod_lt _ h0
  have hk : ((y % 2 ^ N : Nat) : Int) % (N : Int) = (((y % 2 ^ N) % N : Nat) : Int) := (Int.natCast_emod _ _).symm
  have KK := Lib.hid (show ∃ K, K = (y % 2 ^ N) % N from ⟨_, rfl⟩)
  obtain ⟨K, hK⟩ := KK.out
  rw [← hK] at hk kK
  have eK : IntKind.i64.wrap (K : Int) = (K : Int) := IntWalk.i64_in _ (by omega)
  have WA := wd_lst N x
  have WB := wd_lst N y
  have lA := lst_length N x
  have lB := lst_length N y
  have HK := Lib.hid hK
  have WO := fun (w : World) (v : Value) (B : Nat) (h : Bits w v (lst N y) B) => word_ok (lst N y) (by omega) h
  rw [WB] at WO
  obtain ⟨la, hla⟩ : ∃ l, l = lst N x := ⟨_, rfl⟩
  obtain ⟨lb, hlb⟩ : ∃ l, l = lst N y := ⟨_, rfl⟩
  rw [← hla] at WA lA
  rw [← hlb] at WB lB WO
  have HLA := hla.symm
  have HLB := hlb.symm
  have HH := Lib.hid (And.intro WA (And.intro WB (And.intro lA lB)))
  obtain ⟨Y, hY⟩ : ∃ Y, Y = y % 2 ^ N := ⟨_, rfl⟩
  rw [← hY] at WO hk
  have WO := Lib.hid WO
  have HY := Lib.hid hY
  clear hY
  have HLA2 := Lib.hid HLA
  have HLB2 := Lib.hid HLB
  clear WA WB lA lB hK hla hlb KK HLA HLB
  go_enter Try.func11, Try.ntmps11
  go_wp2_with fail
  refine (LA.out _).mono ?_
  rintro e w2 ⟨va, rfl, ba, t2⟩
  rw [HLA2.out] at ba
  have BA := Lib.hid ba
  have T2 := Lib.hid t2
  clear ba t2
  go_wp2_with fail
  refine (LB.out _).mono ?_
  rintro e w3 ⟨vb, rfl, bb, t3⟩
  rw [HLB2.out] at bb
  have T3 := Lib.hid (T2.out.trans t3)
  have BA3 := Lib.hid (BA.out.fresh t3)
  have BB3 := Lib.hid bb
  clear t3 bb
  go_wp2_with fail
  refine (WO.out _ _ _ BB3.out).mono ?_
  rintro e w4 ⟨rfl, rfl⟩
  have hbx := BA3.out
  obtain ⟨g, cp, cur, hva, hB, hg, hc⟩ := hbx
  have hcell := bits_cell hg hc (N - 1) (by rw [HH.out.2.2.1]; omega)
  have lA := HH.out.2.2.1
  rw [lA] at hva
  subst hva
  clear hg hc hB lA
  have hbx := BB3.out
  obtain ⟨g2, cp2, cur2, hva, hB, hg, hc⟩ := hbx
  have hcell2 := bits_cell hg hc (N - 1) (by rw [HH.out.2.2.2]; omega)
  have lB := HH.out.2.2.2
  rw [lB] at hva
  subst hva
  clear hg hc hB lB
  have eN1 : IntKind.i64.wrap ((N : Int) - 1) = ((N - 1 : Nat) : Int) := by rw [IntWalk.i64_in _ (by omega)]; omega
  have tb : la.getD (N - 1) false = false := by rw [← HLA2.out, lst_top N x h0]; simp [hta]
  have tb2 : lb.getD (N - 1) false = false := by rw [← HLB2.out, lst_top N y h0]; simp [htb]
  rw [tb] at hcell
  rw [tb2] at hcell2
  clear tb tb2 hta htb
  have hz2 : wd lb ≠ 0 := by rw [HH.out.2.1]; exact hz
  have ZR := zero_ok lb N HH.out.2.2.2 (by omega) BB3.out
  rw [show decide (wd lb = 0) = false by simpa using hz2] at ZR
  have ZR := Lib.hid ZR
  clear hz2 hz
  go_wp2_with fail
  refine ZR.out.mono ?_
  rintro e w5 ⟨rfl, rfl⟩
  go_wp2_with fail
  go_quiet (fail)
  have T4 := Lib.hid (T3.out.trans (Touch.drewN _ w3 nq))
  have BA4 := Lib.hid (BA3.out.fresh (Touch.drewN _ w3 nq))
  have BB4 := Lib.hid (BB3.out.fresh (Touch.drewN _ w3 nq))
  have hLa : Hid ((la).length = N ∧ wd (la) = x % 2 ^ N) := Lib.hid ⟨HH.out.2.2.1, by exact HH.out.1⟩
  have hLb : Hid ((lb).length = N ∧ wd (lb) = y % 2 ^ N) := Lib.hid ⟨HH.out.2.2.2, by exact HH.out.2.1⟩
  go_wp2_with fail
  refine (divide_ok (la) (lb) N hLa.out.1 hLb.out.1 h0 (by omega) (by rw [hLb.out.2]; exact HZ'.out) BA4.out BB4.out).mono ?_
  rintro e w6 ⟨v6, u6, Q, R, rfl, lQ, lR, wQ, wR, bQ, bR, t6⟩
  have T7 := Lib.hid (T4.out.trans t6)
  have BQ := Lib.hid bQ
  have BR := Lib.hid bR
  have WQ := Lib.hid (show wd Q = ((x % 2 ^ N) / (y % 2 ^ N)) by rw [wQ, hLa.out.2, hLb.out.2])
  have WR := Lib.hid (show wd R = ((x % 2 ^ N) % (y % 2 ^ N)) by rw [wR, hLa.out.2, hLb.out.2])
  have LQ := Lib.hid (And.intro lQ lR)
  clear bQ bR t6 wQ wR lQ lR
  have hbx := BQ.out
  obtain ⟨g7, cp7, cur7, hv7, hB7, hg7, hc7⟩ := hbx
  have hcell7 := bits_cell hg7 hc7 (N - 1) (by rw [LQ.out.1]; omega)
  have tq : Q.getD (N - 1) false = false := by
    rw [← wd_bit, WQ.out, Nat.testBit_eq_decide_div_mod_eq, HOV.out]; rfl
  rw [tq] at hcell7
  have lQ := LQ.out.1
  rw [lQ] at hv7
  subst hv7
  clear hg7 hc7 hB7 tq lQ
  have WL := Lib.hid (word_ok (Q) (by rw [LQ.out.1]; exact hn) BQ.out)
  have VV := Lib.hid (show wd (Q) = v by rw [WQ.out]; exact HV.out)
  generalize wd (Q) = r at *
  go_wp2_with fail
  refine WL.out.mono ?_
  rintro e w9 ⟨rfl, rfl⟩
  go_wp2_with fail
  go_ret2
  exact ⟨by rw [← VV.out]; rfl, T7.out⟩

set_option maxRecDepth 100000 in
set_option maxHeartbeats 2000000 in
theorem ref_rems_ft (hta : x / 2 ^ (N - 1) % 2 = 0) (htb : y / 2 ^ (N - 1) % 2 = 1) (hz : y % 2 ^ N ≠ 0) (hz' : (2 ^ N - y % 2 ^ N) % 2 ^ N ≠ 0) (v : Nat) (hv : ((x % 2 ^ N) % ((2 ^ N - y % 2 ^ N) % 2 ^ N)) = v) : Calls Try.prog 11 #[.int .i64 5, .int .i64 N, .int .u64 x, .int .u64 y] w (R2 v 0 w) := by
  have HV := Lib.hid hv
  have HZ' := Lib.hid hz'
  clear hv hz'
  have LA := Lib.hid (fun w => list_ok N x h0 hn hx w)
  have LB := Lib.hid (fun w => list_ok N y h0 hn hy w)
  have eN : IntKind.u64.wrap (N : Int) = (N : Int) := IntWalk.u64_in _ (by omega)
  have nN : ¬ (N : Int) = 0 := by omega
  have kK : (y % 2 ^ N) % N < N := Nat.mod_lt _ h0
  have hk : ((y % 2 ^ N : Nat) : Int) % (N : Int) = (((y % 2 ^ N) % N : Nat) : Int) := (Int.natCast_emod _ _).symm
  have KK := Lib.hid (show ∃ K, K = (y % 2 ^ N) % N from ⟨_, rfl⟩)
  obtain ⟨K, hK⟩ := KK.out
  rw [← hK] at hk kK
  have eK : IntKind.i64.wrap (K : Int) = (K : Int) := IntWalk.i64_in _ (by omega)
  have WA := wd_lst N x
  have WB := wd_lst N y
  have lA := lst_length N x
  have lB := lst_length N y
  have HK := Lib.hid hK
  have WO := fun (w : World) (v : Value) (B : Nat) (h : Bits w v (lst N y) B) => word_ok (lst N y) (by omega) h
  rw [WB] at WO
  obtain ⟨la, hla⟩ : ∃ l, l = lst N x := ⟨_, rfl⟩
  obtain ⟨lb, hlb⟩ : ∃ l, l = lst N y := ⟨_, rfl⟩
  rw [← hla] at WA lA
  rw [← hlb] at WB lB WO
  have HLA := hla.symm
  have HLB := hlb.symm
  have HH := Lib.hid (And.intro WA (And.intro WB (And.intro lA lB)))
  obtain ⟨Y, hY⟩ : ∃ Y, Y = y % 2 ^ N := ⟨_, rfl⟩
  rw [← hY] at WO hk
  have WO := Lib.hid WO
  have HY := Lib.hid hY
  clear hY
  have HLA2 := Lib.hid HLA
  have HLB2 := Lib.hid HLB
  clear WA WB lA lB hK hla hlb KK HLA HLB
  go_enter Try.func11, Try.ntmps11
  go_wp2_with fail
  refine (LA.out _).mono ?_
  rintro e w2 ⟨va, rfl, ba, t2⟩
  rw [HLA2.out] at ba
  have BA := Lib.hid ba
  have T2 := Lib.hid t2
  clear ba t2
  go_wp2_with fail
  refine (LB.out _).mono ?_
  rintro e w3 ⟨vb, rfl, bb, t3⟩
  rw [HLB2.out] at bb
  have T3 := Lib.hid (T2.out.trans t3)
  have BA3 := Lib.hid (BA.out.fresh t3)
  have BB3 := Lib.hid bb
  clear t3 bb
  go_wp2_with fail
  refine (WO.out _ _ _ BB3.out).mono ?_
  rintro e w4 ⟨rfl, rfl⟩
  have hbx := BA3.out
  obtain ⟨g, cp, cur, hva, hB, hg, hc⟩ := hbx
  have hcell := bits_cell hg hc (N - 1) (by rw [HH.out.2.2.1]; omega)
  have lA := HH.out.2.2.1
  rw [lA] at hva
  subst hva
  clear hg hc hB lA
  have hbx := BB3.out
  obtain ⟨g2, cp2, cur2, hva, hB, hg, hc⟩ := hbx
  have hcell2 := bits_cell hg hc (N - 1) (by rw [HH.out.2.2.2]; omega)
  have lB := HH.out.2.2.2
  rw [lB] at hva
  subst hva
  clear hg hc hB lB
  have eN1 : IntKind.i64.wrap ((N : Int) - 1) = ((N - 1 : Nat) : Int) := by rw [IntWalk.i64_in _ (by omega)]; omega
  have tb : la.getD (N - 1) false = false := by rw [← HLA2.out, lst_top N x h0]; simp [hta]
  have tb2 : lb.getD (N - 1) false = true := by rw [← HLB2.out, lst_top N y h0]; simp [htb]
  rw [tb] at hcell
  rw [tb2] at hcell2
  clear tb tb2 hta htb
  have hz2 : wd lb ≠ 0 := by rw [HH.out.2.1]; exact hz
  have ZR := zero_ok lb N HH.out.2.2.2 (by omega) BB3.out
  rw [show decide (wd lb = 0) = false by simpa using hz2] at ZR
  have ZR := Lib.hid ZR
  clear hz2 hz
  go_wp2_with fail
  refine ZR.out.mono ?_
  rintro e w5 ⟨rfl, rfl⟩
  go_wp2_with fail
  go_quiet (fail)
  have T4 := Lib.hid (T3.out.trans (Touch.drewN _ w3 nq))
  have BA4 := Lib.hid (BA3.out.fresh (Touch.drewN _ w3 nq))
  have BB4 := Lib.hid (BB3.out.fresh (Touch.drewN _ w3 nq))
  have hLa : Hid ((la).length = N ∧ wd (la) = x % 2 ^ N) := Lib.hid ⟨HH.out.2.2.1, by exact HH.out.1⟩
  have hLb : Hid ((negL lb N).length = N ∧ wd (negL lb N) = (2 ^ N - y % 2 ^ N) % 2 ^ N) := Lib.hid ⟨negL_length lb N, by rw [wd_neg lb N HH.out.2.2.2, HH.out.2.1]⟩
  go_wp2_with fail
  refine (neg_ok lb N HH.out.2.2.2 h0 (by omega) BB4.out).mono ?_
  rintro e wb ⟨vb, rfl, bb, tb⟩
  have T6 := Lib.hid (T4.out.trans tb)
  have BA6 := Lib.hid (BA4.out.fresh tb)
  have BB6 := Lib.hid bb
  clear bb tb
  go_wp2_with fail
  refine (divide_ok (la) (negL lb N) N hLa.out.1 hLb.out.1 h0 (by omega) (by rw [hLb.out.2]; exact HZ'.out) BA6.out BB6.out).mono ?_
  rintro e w6 ⟨v6, u6, Q, R, rfl, lQ, lR, wQ, wR, bQ, bR, t6⟩
  have T7 := Lib.hid (T6.out.trans t6)
  have BQ := Lib.hid bQ
  have BR := Lib.hid bR
  have WQ := Lib.hid (show wd Q = ((x % 2 ^ N) / ((2 ^ N - y % 2 ^ N) % 2 ^ N)) by rw [wQ, hLa.out.2, hLb.out.2])
  have WR := Lib.hid (show wd R = ((x % 2 ^ N) % ((2 ^ N - y % 2 ^ N) % 2 ^ N)) by rw [wR, hLa.out.2, hLb.out.2])
  have LQ := Lib.hid (And.intro lQ lR)
  clear bQ bR t6 wQ wR lQ lR
  have WL := Lib.hid (word_ok (R) (by rw [LQ.out.2]; exact hn) BR.out)
  have VV := Lib.hid (show wd (R) = v by rw [WR.out]; exact HV.out)
  generalize wd (R) = r at *
  go_wp2_with fail
  refine WL.out.mono ?_
  rintro e w9 ⟨rfl, rfl⟩
  go_wp2_with fail
  go_ret2
  exact ⟨by rw [← VV.out]; rfl, T7.out⟩

set_option maxRecDepth 100000 in
set_option maxHeartbeats 2000000 in
theorem ref_divs_ft (hta : x / 2 ^ (N - 1) % 2 = 0) (htb : y / 2 ^ (N - 1) % 2 = 1) (hz : y % 2 ^ N ≠ 0) (hz' : (2 ^ N - y % 2 ^ N) % 2 ^ N ≠ 0) (v : Nat) (hv : (2 ^ N - ((x % 2 ^ N) / ((2 ^ N - y % 2 ^ N) % 2 ^ N))) % 2 ^ N = v) : Calls Try.prog 11 #[.int .i64 3, .int .i64 N, .int .u64 x, .int .u64 y] w (R2 v 0 w) := by
  have HV := Lib.hid hv
  have HZ' := Lib.hid hz'
  clear hv hz'
  have LA := Lib.hid (fun w => list_ok N x h0 hn hx w)
  have LB := Lib.hid (fun w => list_ok N y h0 hn hy w)
  have eN : IntKind.u64.wrap (N : Int) = (N : Int) := IntWalk.u64_in _ (by omega)
  have nN : ¬ (N : Int) = 0 := by omega
  have kK : (y % 2 ^ N) % N < N := Nat.mod_lt _ h0
  have hk : ((y % 2 ^ N : Nat) : Int) % (N : Int) = (((y % 2 ^ N) % N : Nat) : Int) := (Int.natCast_emod _ _).symm
  have KK := Lib.hid (show ∃ K, K = (y % 2 ^ N) % N from ⟨_, rfl⟩)
  obtain ⟨K, hK⟩ := KK.out
  rw [← hK] at hk kK
  have eK : IntKind.i64.wrap (K : Int) = (K : Int) := IntWalk.i64_in _ (by omega)
  have WA := wd_lst N x
  have WB := wd_lst N y
  have lA := lst_length N x
  have lB := lst_length N y
  have HK := Lib.hid hK
  have WO := fun (w : World) (v : Value) (B : Nat) (h : Bits w v (lst N y) B) => word_ok (lst N y) (by omega) h
  rw [WB] at WO
  obtain ⟨la, hla⟩ : ∃ l, l = lst N x := ⟨_, rfl⟩
  obtain ⟨lb, hlb⟩ : ∃ l, l = lst N y := ⟨_, rfl⟩
  rw [← hla] at WA lA
  rw [← hlb] at WB lB WO
  have HLA := hla.symm
  have HLB := hlb.symm
  have HH := Lib.hid (And.intro WA (And.intro WB (And.intro lA lB)))
  obtain ⟨Y, hY⟩ : ∃ Y, Y = y % 2 ^ N := ⟨_, rfl⟩
  rw [← hY] at WO hk
  have WO := Lib.hid WO
  have HY := Lib.hid hY
  clear hY
  have HLA2 := Lib.hid HLA
  have HLB2 := Lib.hid HLB
  clear WA WB lA lB hK hla hlb KK HLA HLB
  go_enter Try.func11, Try.ntmps11
  go_wp2_with fail
  refine (LA.out _).mono ?_
  rintro e w2 ⟨va, rfl, ba, t2⟩
  rw [HLA2.out] at ba
  have BA := Lib.hid ba
  have T2 := Lib.hid t2
  clear ba t2
  go_wp2_with fail
  refine (LB.out _).mono ?_
  rintro e w3 ⟨vb, rfl, bb, t3⟩
  rw [HLB2.out] at bb
  have T3 := Lib.hid (T2.out.trans t3)
  have BA3 := Lib.hid (BA.out.fresh t3)
  have BB3 := Lib.hid bb
  clear t3 bb
  go_wp2_with fail
  refine (WO.out _ _ _ BB3.out).mono ?_
  rintro e w4 ⟨rfl, rfl⟩
  have hbx := BA3.out
  obtain ⟨g, cp, cur, hva, hB, hg, hc⟩ := hbx
  have hcell := bits_cell hg hc (N - 1) (by rw [HH.out.2.2.1]; omega)
  have lA := HH.out.2.2.1
  rw [lA] at hva
  subst hva
  clear hg hc hB lA
  have hbx := BB3.out
  obtain ⟨g2, cp2, cur2, hva, hB, hg, hc⟩ := hbx
  have hcell2 := bits_cell hg hc (N - 1) (by rw [HH.out.2.2.2]; omega)
  have lB := HH.out.2.2.2
  rw [lB] at hva
  subst hva
  clear hg hc hB lB
  have eN1 : IntKind.i64.wrap ((N : Int) - 1) = ((N - 1 : Nat) : Int) := by rw [IntWalk.i64_in _ (by omega)]; omega
  have tb : la.getD (N - 1) false = false := by rw [← HLA2.out, lst_top N x h0]; simp [hta]
  have tb2 : lb.getD (N - 1) false = true := by rw [← HLB2.out, lst_top N y h0]; simp [htb]
  rw [tb] at hcell
  rw [tb2] at hcell2
  clear tb tb2 hta htb
  have hz2 : wd lb ≠ 0 := by rw [HH.out.2.1]; exact hz
  have ZR := zero_ok lb N HH.out.2.2.2 (by omega) BB3.out
  rw [show decide (wd lb = 0) = false by simpa using hz2] at ZR
  have ZR := Lib.hid ZR
  clear hz2 hz
  go_wp2_with fail
  refine ZR.out.mono ?_
  rintro e w5 ⟨rfl, rfl⟩
  go_wp2_with fail
  go_quiet (fail)
  have T4 := Lib.hid (T3.out.trans (Touch.drewN _ w3 nq))
  have BA4 := Lib.hid (BA3.out.fresh (Touch.drewN _ w3 nq))
  have BB4 := Lib.hid (BB3.out.fresh (Touch.drewN _ w3 nq))
  have hLa : Hid ((la).length = N ∧ wd (la) = x % 2 ^ N) := Lib.hid ⟨HH.out.2.2.1, by exact HH.out.1⟩
  have hLb : Hid ((negL lb N).length = N ∧ wd (negL lb N) = (2 ^ N - y % 2 ^ N) % 2 ^ N) := Lib.hid ⟨negL_length lb N, by rw [wd_neg lb N HH.out.2.2.2, HH.out.2.1]⟩
  go_wp2_with fail
  refine (neg_ok lb N HH.out.2.2.2 h0 (by omega) BB4.out).mono ?_
  rintro e wb ⟨vb, rfl, bb, tb⟩
  have T6 := Lib.hid (T4.out.trans tb)
  have BA6 := Lib.hid (BA4.out.fresh tb)
  have BB6 := Lib.hid bb
  clear bb tb
  go_wp2_with fail
  refine (divide_ok (la) (negL lb N) N hLa.out.1 hLb.out.1 h0 (by omega) (by rw [hLb.out.2]; exact HZ'.out) BA6.out BB6.out).mono ?_
  rintro e w6 ⟨v6, u6, Q, R, rfl, lQ, lR, wQ, wR, bQ, bR, t6⟩
  have T7 := Lib.hid (T6.out.trans t6)
  have BQ := Lib.hid bQ
  have BR := Lib.hid bR
  have WQ := Lib.hid (show wd Q = ((x % 2 ^ N) / ((2 ^ N - y % 2 ^ N) % 2 ^ N)) by rw [wQ, hLa.out.2, hLb.out.2])
  have WR := Lib.hid (show wd R = ((x % 2 ^ N) % ((2 ^ N - y % 2 ^ N) % 2 ^ N)) by rw [wR, hLa.out.2, hLb.out.2])
  have LQ := Lib.hid (And.intro lQ lR)
  clear bQ bR t6 wQ wR lQ lR
  go_wp2_with fail
  refine (neg_ok Q N LQ.out.1 h0 (by omega) BQ.out).mono ?_
  rintro e w8 ⟨v8, rfl, b8, t8⟩
  have T8 := Lib.hid (T7.out.trans t8)
  have B8 := Lib.hid b8
  clear b8 t8
  have WL := Lib.hid (word_ok (negL Q N) (by rw [negL_length]; exact hn) B8.out)
  have VV := Lib.hid (show wd (negL Q N) = v by rw [wd_neg Q N LQ.out.1, WQ.out]; exact HV.out)
  generalize wd (negL Q N) = r at *
  go_wp2_with fail
  refine WL.out.mono ?_
  rintro e w9 ⟨rfl, rfl⟩
  go_wp2_with fail
  go_ret2
  exact ⟨by rw [← VV.out]; rfl, T8.out⟩

set_option maxRecDepth 100000 in
set_option maxHeartbeats 2000000 in
theorem ref_rems_tf (hta : x / 2 ^ (N - 1) % 2 = 1) (htb : y / 2 ^ (N - 1) % 2 = 0) (hz : y % 2 ^ N ≠ 0) (hz' : y % 2 ^ N ≠ 0) (v : Nat) (hv : (2 ^ N - (((2 ^ N - x % 2 ^ N) % 2 ^ N) % (y % 2 ^ N))) % 2 ^ N = v) : Calls Try.prog 11 #[.int .i64 5, .int .i64 N, .int .u64 x, .int .u64 y] w (R2 v 0 w) := by
  have HV := Lib.hid hv
  have HZ' := Lib.hid hz'
  clear hv hz'
  have LA := Lib.hid (fun w => list_ok N x h0 hn hx w)
  have LB := Lib.hid (fun w => list_ok N y h0 hn hy w)
  have eN : IntKind.u64.wrap (N : Int) = (N : Int) := IntWalk.u64_in _ (by omega)
  have nN : ¬ (N : Int) = 0 := by omega
  have kK : (y % 2 ^ N) % N < N := Nat.mod_lt _ h0
  have hk : ((y % 2 ^ N : Nat) : Int) % (N : Int) = (((y % 2 ^ N) % N : Nat) : Int) := (Int.natCast_emod _ _).symm
  have KK := Lib.hid (show ∃ K, K = (y % 2 ^ N) % N from ⟨_, rfl⟩)
  obtain ⟨K, hK⟩ := KK.out
  rw [← hK] at hk kK
  have eK : IntKind.i64.wrap (K : Int) = (K : Int) := IntWalk.i64_in _ (by omega)
  have WA := wd_lst N x
  have WB := wd_lst N y
  have lA := lst_length N x
  have lB := lst_length N y
  have HK := Lib.hid hK
  have WO := fun (w : World) (v : Value) (B : Nat) (h : Bits w v (lst N y) B) => word_ok (lst N y) (by omega) h
  rw [WB] at WO
  obtain ⟨la, hla⟩ : ∃ l, l = lst N x := ⟨_, rfl⟩
  obtain ⟨lb, hlb⟩ : ∃ l, l = lst N y := ⟨_, rfl⟩
  rw [← hla] at WA lA
  rw [← hlb] at WB lB WO
  have HLA := hla.symm
  have HLB := hlb.symm
  have HH := Lib.hid (And.intro WA (And.intro WB (And.intro lA lB)))
  obtain ⟨Y, hY⟩ : ∃ Y, Y = y % 2 ^ N := ⟨_, rfl⟩
  rw [← hY] at WO hk
  have WO := Lib.hid WO
  have HY := Lib.hid hY
  clear hY
  have HLA2 := Lib.hid HLA
  have HLB2 := Lib.hid HLB
  clear WA WB lA lB hK hla hlb KK HLA HLB
  go_enter Try.func11, Try.ntmps11
  go_wp2_with fail
  refine (LA.out _).mono ?_
  rintro e w2 ⟨va, rfl, ba, t2⟩
  rw [HLA2.out] at ba
  have BA := Lib.hid ba
  have T2 := Lib.hid t2
  clear ba t2
  go_wp2_with fail
  refine (LB.out _).mono ?_
  rintro e w3 ⟨vb, rfl, bb, t3⟩
  rw [HLB2.out] at bb
  have T3 := Lib.hid (T2.out.trans t3)
  have BA3 := Lib.hid (BA.out.fresh t3)
  have BB3 := Lib.hid bb
  clear t3 bb
  go_wp2_with fail
  refine (WO.out _ _ _ BB3.out).mono ?_
  rintro e w4 ⟨rfl, rfl⟩
  have hbx := BA3.out
  obtain ⟨g, cp, cur, hva, hB, hg, hc⟩ := hbx
  have hcell := bits_cell hg hc (N - 1) (by rw [HH.out.2.2.1]; omega)
  have lA := HH.out.2.2.1
  rw [lA] at hva
  subst hva
  clear hg hc hB lA
  have hbx := BB3.out
  obtain ⟨g2, cp2, cur2, hva, hB, hg, hc⟩ := hbx
  have hcell2 := bits_cell hg hc (N - 1) (by rw [HH.out.2.2.2]; omega)
  have lB := HH.out.2.2.2
  rw [lB] at hva
  subst hva
  clear hg hc hB lB
  have eN1 : IntKind.i64.wrap ((N : Int) - 1) = ((N - 1 : Nat) : Int) := by rw [IntWalk.i64_in _ (by omega)]; omega
  have tb : la.getD (N - 1) false = true := by rw [← HLA2.out, lst_top N x h0]; simp [hta]
  have tb2 : lb.getD (N - 1) false = false := by rw [← HLB2.out, lst_top N y h0]; simp [htb]
  rw [tb] at hcell
  rw [tb2] at hcell2
  clear tb tb2 hta htb
  have hz2 : wd lb ≠ 0 := by rw [HH.out.2.1]; exact hz
  have ZR := zero_ok lb N HH.out.2.2.2 (by omega) BB3.out
  rw [show decide (wd lb = 0) = false by simpa using hz2] at ZR
  have ZR := Lib.hid ZR
  clear hz2 hz
  go_wp2_with fail
  refine ZR.out.mono ?_
  rintro e w5 ⟨rfl, rfl⟩
  go_wp2_with fail
  go_quiet (fail)
  have T4 := Lib.hid (T3.out.trans (Touch.drewN _ w3 nq))
  have BA4 := Lib.hid (BA3.out.fresh (Touch.drewN _ w3 nq))
  have BB4 := Lib.hid (BB3.out.fresh (Touch.drewN _ w3 nq))
  have hLa : Hid ((negL la N).length = N ∧ wd (negL la N) = (2 ^ N - x % 2 ^ N) % 2 ^ N) := Lib.hid ⟨negL_length la N, by rw [wd_neg la N HH.out.2.2.1, HH.out.1]⟩
  have hLb : Hid ((lb).length = N ∧ wd (lb) = y % 2 ^ N) := Lib.hid ⟨HH.out.2.2.2, by exact HH.out.2.1⟩
  go_wp2_with fail
  refine (neg_ok la N HH.out.2.2.1 h0 (by omega) BA4.out).mono ?_
  rintro e wa ⟨va, rfl, ba, ta⟩
  have T5 := Lib.hid (T4.out.trans ta)
  have BA5 := Lib.hid ba
  have BB5 := Lib.hid (BB4.out.fresh ta)
  clear ba ta
  go_wp2_with fail
  refine (divide_ok (negL la N) (lb) N hLa.out.1 hLb.out.1 h0 (by omega) (by rw [hLb.out.2]; exact HZ'.out) BA5.out BB5.out).mono ?_
  rintro e w6 ⟨v6, u6, Q, R, rfl, lQ, lR, wQ, wR, bQ, bR, t6⟩
  have T7 := Lib.hid (T5.out.trans t6)
  have BQ := Lib.hid bQ
  have BR := Lib.hid bR
  have WQ := Lib.hid (show wd Q = (((2 ^ N - x % 2 ^ N) % 2 ^ N) / (y % 2 ^ N)) by rw [wQ, hLa.out.2, hLb.out.2])
  have WR := Lib.hid (show wd R = (((2 ^ N - x % 2 ^ N) % 2 ^ N) % (y % 2 ^ N)) by rw [wR, hLa.out.2, hLb.out.2])
  have LQ := Lib.hid (And.intro lQ lR)
  clear bQ bR t6 wQ wR lQ lR
  go_wp2_with fail
  refine (neg_ok R N LQ.out.2 h0 (by omega) BR.out).mono ?_
  rintro e w8 ⟨v8, rfl, b8, t8⟩
  have T8 := Lib.hid (T7.out.trans t8)
  have B8 := Lib.hid b8
  clear b8 t8
  have WL := Lib.hid (word_ok (negL R N) (by rw [negL_length]; exact hn) B8.out)
  have VV := Lib.hid (show wd (negL R N) = v by rw [wd_neg R N LQ.out.2, WR.out]; exact HV.out)
  generalize wd (negL R N) = r at *
  go_wp2_with fail
  refine WL.out.mono ?_
  rintro e w9 ⟨rfl, rfl⟩
  go_wp2_with fail
  go_ret2
  exact ⟨by rw [← VV.out]; rfl, T8.out⟩

set_option maxRecDepth 100000 in
set_option maxHeartbeats 2000000 in
theorem ref_divs_tf (hta : x / 2 ^ (N - 1) % 2 = 1) (htb : y / 2 ^ (N - 1) % 2 = 0) (hz : y % 2 ^ N ≠ 0) (hz' : y % 2 ^ N ≠ 0) (v : Nat) (hv : (2 ^ N - (((2 ^ N - x % 2 ^ N) % 2 ^ N) / (y % 2 ^ N))) % 2 ^ N = v) : Calls Try.prog 11 #[.int .i64 3, .int .i64 N, .int .u64 x, .int .u64 y] w (R2 v 0 w) := by
  have HV := Lib.hid hv
  have HZ' := Lib.hid hz'
  clear hv hz'
  have LA := Lib.hid (fun w => list_ok N x h0 hn hx w)
  have LB := Lib.hid (fun w => list_ok N y h0 hn hy w)
  have eN : IntKind.u64.wrap (N : Int) = (N : Int) := IntWalk.u64_in _ (by omega)
  have nN : ¬ (N : Int) = 0 := by omega
  have kK : (y % 2 ^ N) % N < N := Nat.mod_lt _ h0
  have hk : ((y % 2 ^ N : Nat) : Int) % (N : Int) = (((y % 2 ^ N) % N : Nat) : Int) := (Int.natCast_emod _ _).symm
  have KK := Lib.hid (show ∃ K, K = (y % 2 ^ N) % N from ⟨_, rfl⟩)
  obtain ⟨K, hK⟩ := KK.out
  rw [← hK] at hk kK
  have eK : IntKind.i64.wrap (K : Int) = (K : Int) := IntWalk.i64_in _ (by omega)
  have WA := wd_lst N x
  have WB := wd_lst N y
  have lA := lst_length N x
  have lB := lst_length N y
  have HK := Lib.hid hK
  have WO := fun (w : World) (v : Value) (B : Nat) (h : Bits w v (lst N y) B) => word_ok (lst N y) (by omega) h
  rw [WB] at WO
  obtain ⟨la, hla⟩ : ∃ l, l = lst N x := ⟨_, rfl⟩
  obtain ⟨lb, hlb⟩ : ∃ l, l = lst N y := ⟨_, rfl⟩
  rw [← hla] at WA lA
  rw [← hlb] at WB lB WO
  have HLA := hla.symm
  have HLB := hlb.symm
  have HH := Lib.hid (And.intro WA (And.intro WB (And.intro lA lB)))
  obtain ⟨Y, hY⟩ : ∃ Y, Y = y % 2 ^ N := ⟨_, rfl⟩
  rw [← hY] at WO hk
  have WO := Lib.hid WO
  have HY := Lib.hid hY
  clear hY
  have HLA2 := Lib.hid HLA
  have HLB2 := Lib.hid HLB
  clear WA WB lA lB hK hla hlb KK HLA HLB
  go_enter Try.func11, Try.ntmps11
  go_wp2_with fail
  refine (LA.out _).mono ?_
  rintro e w2 ⟨va, rfl, ba, t2⟩
  rw [HLA2.out] at ba
  have BA := Lib.hid ba
  have T2 := Lib.hid t2
  clear ba t2
  go_wp2_with fail
  refine (LB.out _).mono ?_
  rintro e w3 ⟨vb, rfl, bb, t3⟩
  rw [HLB2.out] at bb
  have T3 := Lib.hid (T2.out.trans t3)
  have BA3 := Lib.hid (BA.out.fresh t3)
  have BB3 := Lib.hid bb
  clear t3 bb
  go_wp2_with fail
  refine (WO.out _ _ _ BB3.out).mono ?_
  rintro e w4 ⟨rfl, rfl⟩
  have hbx := BA3.out
  obtain ⟨g, cp, cur, hva, hB, hg, hc⟩ := hbx
  have hcell := bits_cell hg hc (N - 1) (by rw [HH.out.2.2.1]; omega)
  have lA := HH.out.2.2.1
  rw [lA] at hva
  subst hva
  clear hg hc hB lA
  have hbx := BB3.out
  obtain ⟨g2, cp2, cur2, hva, hB, hg, hc⟩ := hbx
  have hcell2 := bits_cell hg hc (N - 1) (by rw [HH.out.2.2.2]; omega)
  have lB := HH.out.2.2.2
  rw [lB] at hva
  subst hva
  clear hg hc hB lB
  have eN1 : IntKind.i64.wrap ((N : Int) - 1) = ((N - 1 : Nat) : Int) := by rw [IntWalk.i64_in _ (by omega)]; omega
  have tb : la.getD (N - 1) false = true := by rw [← HLA2.out, lst_top N x h0]; simp [hta]
  have tb2 : lb.getD (N - 1) false = false := by rw [← HLB2.out, lst_top N y h0]; simp [htb]
  rw [tb] at hcell
  rw [tb2] at hcell2
  clear tb tb2 hta htb
  have hz2 : wd lb ≠ 0 := by rw [HH.out.2.1]; exact hz
  have ZR := zero_ok lb N HH.out.2.2.2 (by omega) BB3.out
  rw [show decide (wd lb = 0) = false by simpa using hz2] at ZR
  have ZR := Lib.hid ZR
  clear hz2 hz
  go_wp2_with fail
  refine ZR.out.mono ?_
  rintro e w5 ⟨rfl, rfl⟩
  go_wp2_with fail
  go_quiet (fail)
  have T4 := Lib.hid (T3.out.trans (Touch.drewN _ w3 nq))
  have BA4 := Lib.hid (BA3.out.fresh (Touch.drewN _ w3 nq))
  have BB4 := Lib.hid (BB3.out.fresh (Touch.drewN _ w3 nq))
  have hLa : Hid ((negL la N).length = N ∧ wd (negL la N) = (2 ^ N - x % 2 ^ N) % 2 ^ N) := Lib.hid ⟨negL_length la N, by rw [wd_neg la N HH.out.2.2.1, HH.out.1]⟩
  have hLb : Hid ((lb).length = N ∧ wd (lb) = y % 2 ^ N) := Lib.hid ⟨HH.out.2.2.2, by exact HH.out.2.1⟩
  go_wp2_with fail
  refine (neg_ok la N HH.out.2.2.1 h0 (by omega) BA4.out).mono ?_
  rintro e wa ⟨va, rfl, ba, ta⟩
  have T5 := Lib.hid (T4.out.trans ta)
  have BA5 := Lib.hid ba
  have BB5 := Lib.hid (BB4.out.fresh ta)
  clear ba ta
  go_wp2_with fail
  refine (divide_ok (negL la N) (lb) N hLa.out.1 hLb.out.1 h0 (by omega) (by rw [hLb.out.2]; exact HZ'.out) BA5.out BB5.out).mono ?_
  rintro e w6 ⟨v6, u6, Q, R, rfl, lQ, lR, wQ, wR, bQ, bR, t6⟩
  have T7 := Lib.hid (T5.out.trans t6)
  have BQ := Lib.hid bQ
  have BR := Lib.hid bR
  have WQ := Lib.hid (show wd Q = (((2 ^ N - x % 2 ^ N) % 2 ^ N) / (y % 2 ^ N)) by rw [wQ, hLa.out.2, hLb.out.2])
  have WR := Lib.hid (show wd R = (((2 ^ N - x % 2 ^ N) % 2 ^ N) % (y % 2 ^ N)) by rw [wR, hLa.out.2, hLb.out.2])
  have LQ := Lib.hid (And.intro lQ lR)
  clear bQ bR t6 wQ wR lQ lR
  go_wp2_with fail
  refine (neg_ok Q N LQ.out.1 h0 (by omega) BQ.out).mono ?_
  rintro e w8 ⟨v8, rfl, b8, t8⟩
  have T8 := Lib.hid (T7.out.trans t8)
  have B8 := Lib.hid b8
  clear b8 t8
  have WL := Lib.hid (word_ok (negL Q N) (by rw [negL_length]; exact hn) B8.out)
  have VV := Lib.hid (show wd (negL Q N) = v by rw [wd_neg Q N LQ.out.1, WQ.out]; exact HV.out)
  generalize wd (negL Q N) = r at *
  go_wp2_with fail
  refine WL.out.mono ?_
  rintro e w9 ⟨rfl, rfl⟩
  go_wp2_with fail
  go_ret2
  exact ⟨by rw [← VV.out]; rfl, T8.out⟩

set_option maxRecDepth 100000 in
set_option maxHeartbeats 2000000 in
theorem ref_rems_tt (hta : x / 2 ^ (N - 1) % 2 = 1) (htb : y / 2 ^ (N - 1) % 2 = 1) (hz : y % 2 ^ N ≠ 0) (hz' : (2 ^ N - y % 2 ^ N) % 2 ^ N ≠ 0) (v : Nat) (hv : (2 ^ N - (((2 ^ N - x % 2 ^ N) % 2 ^ N) % ((2 ^ N - y % 2 ^ N) % 2 ^ N))) % 2 ^ N = v) : Calls Try.prog 11 #[.int .i64 5, .int .i64 N, .int .u64 x, .int .u64 y] w (R2 v 0 w) := by
  have HV := Lib.hid hv
  have HZ' := Lib.hid hz'
  clear hv hz'
  have LA := Lib.hid (fun w => list_ok N x h0 hn hx w)
  have LB := Lib.hid (fun w => list_ok N y h0 hn hy w)
  have eN : IntKind.u64.wrap (N : Int) = (N : Int) := IntWalk.u64_in _ (by omega)
  have nN : ¬ (N : Int) = 0 := by omega
  have kK : (y % 2 ^ N) % N < N := Nat.mod_lt _ h0
  have hk : ((y % 2 ^ N : Nat) : Int) % (N : Int) = (((y % 2 ^ N) % N : Nat) : Int) := (Int.natCast_emod _ _).symm
  have KK := Lib.hid (show ∃ K, K = (y % 2 ^ N) % N from ⟨_, rfl⟩)
  obtain ⟨K, hK⟩ := KK.out
  rw [← hK] at hk kK
  have eK : IntKind.i64.wrap (K : Int) = (K : Int) := IntWalk.i64_in _ (by omega)
  have WA := wd_lst N x
  have WB := wd_lst N y
  have lA := lst_length N x
  have lB := lst_length N y
  have HK := Lib.hid hK
  have WO := fun (w : World) (v : Value) (B : Nat) (h : Bits w v (lst N y) B) => word_ok (lst N y) (by omega) h
  rw [WB] at WO
  obtain ⟨la, hla⟩ : ∃ l, l = lst N x := ⟨_, rfl⟩
  obtain ⟨lb, hlb⟩ : ∃ l, l = lst N y := ⟨_, rfl⟩
  rw [← hla] at WA lA
  rw [← hlb] at WB lB WO
  have HLA := hla.symm
  have HLB := hlb.symm
  have HH := Lib.hid (And.intro WA (And.intro WB (And.intro lA lB)))
  obtain ⟨Y, hY⟩ : ∃ Y, Y = y % 2 ^ N := ⟨_, rfl⟩
  rw [← hY] at WO hk
  have WO := Lib.hid WO
  have HY := Lib.hid hY
  clear hY
  have HLA2 := Lib.hid HLA
  have HLB2 := Lib.hid HLB
  clear WA WB lA lB hK hla hlb KK HLA HLB
  go_enter Try.func11, Try.ntmps11
  go_wp2_with fail
  refine (LA.out _).mono ?_
  rintro e w2 ⟨va, rfl, ba, t2⟩
  rw [HLA2.out] at ba
  have BA := Lib.hid ba
  have T2 := Lib.hid t2
  clear ba t2
  go_wp2_with fail
  refine (LB.out _).mono ?_
  rintro e w3 ⟨vb, rfl, bb, t3⟩
  rw [HLB2.out] at bb
  have T3 := Lib.hid (T2.out.trans t3)
  have BA3 := Lib.hid (BA.out.fresh t3)
  have BB3 := Lib.hid bb
  clear t3 bb
  go_wp2_with fail
  refine (WO.out _ _ _ BB3.out).mono ?_
  rintro e w4 ⟨rfl, rfl⟩
  have hbx := BA3.out
  obtain ⟨g, cp, cur, hva, hB, hg, hc⟩ := hbx
  have hcell := bits_cell hg hc (N - 1) (by rw [HH.out.2.2.1]; omega)
  have lA := HH.out.2.2.1
  rw [lA] at hva
  subst hva
  clear hg hc hB lA
  have hbx := BB3.out
  obtain ⟨g2, cp2, cur2, hva, hB, hg, hc⟩ := hbx
  have hcell2 := bits_cell hg hc (N - 1) (by rw [HH.out.2.2.2]; omega)
  have lB := HH.out.2.2.2
  rw [lB] at hva
  subst hva
  clear hg hc hB lB
  have eN1 : IntKind.i64.wrap ((N : Int) - 1) = ((N - 1 : Nat) : Int) := by rw [IntWalk.i64_in _ (by omega)]; omega
  have tb : la.getD (N - 1) false = true := by rw [← HLA2.out, lst_top N x h0]; simp [hta]
  have tb2 : lb.getD (N - 1) false = true := by rw [← HLB2.out, lst_top N y h0]; simp [htb]
  rw [tb] at hcell
  rw [tb2] at hcell2
  clear tb tb2 hta htb
  have hz2 : wd lb ≠ 0 := by rw [HH.out.2.1]; exact hz
  have ZR := zero_ok lb N HH.out.2.2.2 (by omega) BB3.out
  rw [show decide (wd lb = 0) = false by simpa using hz2] at ZR
  have ZR := Lib.hid ZR
  clear hz2 hz
  go_wp2_with fail
  refine ZR.out.mono ?_
  rintro e w5 ⟨rfl, rfl⟩
  go_wp2_with fail
  go_quiet (fail)
  have T4 := Lib.hid (T3.out.trans (Touch.drewN _ w3 nq))
  have BA4 := Lib.hid (BA3.out.fresh (Touch.drewN _ w3 nq))
  have BB4 := Lib.hid (BB3.out.fresh (Touch.drewN _ w3 nq))
  have hLa : Hid ((negL la N).length = N ∧ wd (negL la N) = (2 ^ N - x % 2 ^ N) % 2 ^ N) := Lib.hid ⟨negL_length la N, by rw [wd_neg la N HH.out.2.2.1, HH.out.1]⟩
  have hLb : Hid ((negL lb N).length = N ∧ wd (negL lb N) = (2 ^ N - y % 2 ^ N) % 2 ^ N) := Lib.hid ⟨negL_length lb N, by rw [wd_neg lb N HH.out.2.2.2, HH.out.2.1]⟩
  go_wp2_with fail
  refine (neg_ok la N HH.out.2.2.1 h0 (by omega) BA4.out).mono ?_
  rintro e wa ⟨va, rfl, ba, ta⟩
  have T5 := Lib.hid (T4.out.trans ta)
  have BA5 := Lib.hid ba
  have BB5 := Lib.hid (BB4.out.fresh ta)
  clear ba ta
  go_wp2_with fail
  refine (neg_ok lb N HH.out.2.2.2 h0 (by omega) BB5.out).mono ?_
  rintro e wb ⟨vb, rfl, bb, tb⟩
  have T6 := Lib.hid (T5.out.trans tb)
  have BA6 := Lib.hid (BA5.out.fresh tb)
  have BB6 := Lib.hid bb
  clear bb tb
  go_wp2_with fail
  refine (divide_ok (negL la N) (negL lb N) N hLa.out.1 hLb.out.1 h0 (by omega) (by rw [hLb.out.2]; exact HZ'.out) BA6.out BB6.out).mono ?_
  rintro e w6 ⟨v6, u6, Q, R, rfl, lQ, lR, wQ, wR, bQ, bR, t6⟩
  have T7 := Lib.hid (T6.out.trans t6)
  have BQ := Lib.hid bQ
  have BR := Lib.hid bR
  have WQ := Lib.hid (show wd Q = (((2 ^ N - x % 2 ^ N) % 2 ^ N) / ((2 ^ N - y % 2 ^ N) % 2 ^ N)) by rw [wQ, hLa.out.2, hLb.out.2])
  have WR := Lib.hid (show wd R = (((2 ^ N - x % 2 ^ N) % 2 ^ N) % ((2 ^ N - y % 2 ^ N) % 2 ^ N)) by rw [wR, hLa.out.2, hLb.out.2])
  have LQ := Lib.hid (And.intro lQ lR)
  clear bQ bR t6 wQ wR lQ lR
  go_wp2_with fail
  refine (neg_ok R N LQ.out.2 h0 (by omega) BR.out).mono ?_
  rintro e w8 ⟨v8, rfl, b8, t8⟩
  have T8 := Lib.hid (T7.out.trans t8)
  have B8 := Lib.hid b8
  clear b8 t8
  have WL := Lib.hid (word_ok (negL R N) (by rw [negL_length]; exact hn) B8.out)
  have VV := Lib.hid (show wd (negL R N) = v by rw [wd_neg R N LQ.out.2, WR.out]; exact HV.out)
  generalize wd (negL R N) = r at *
  go_wp2_with fail
  refine WL.out.mono ?_
  rintro e w9 ⟨rfl, rfl⟩
  go_wp2_with fail
  go_ret2
  exact ⟨by rw [← VV.out]; rfl, T8.out⟩

set_option maxRecDepth 100000 in
set_option maxHeartbeats 2000000 in
theorem ref_divs_tt_o (hta : x / 2 ^ (N - 1) % 2 = 1) (htb : y / 2 ^ (N - 1) % 2 = 1) (hz : y % 2 ^ N ≠ 0) (hz' : (2 ^ N - y % 2 ^ N) % 2 ^ N ≠ 0) (hov : (((2 ^ N - x % 2 ^ N) % 2 ^ N) / ((2 ^ N - y % 2 ^ N) % 2 ^ N)) / 2 ^ (N - 1) % 2 = 1) (v : Nat) (hv : 0 = v) : Calls Try.prog 11 #[.int .i64 3, .int .i64 N, .int .u64 x, .int .u64 y] w (R2 v 3 w) := by
  have HV := Lib.hid hv
  have HZ' := Lib.hid hz'
  clear hv hz'
  have HOV := Lib.hid hov
  clear hov
  have LA := Lib.hid (fun w => list_ok N x h0 hn hx w)
  have LB := Lib.hid (fun w => list_ok N y h0 hn hy w)
  have eN : IntKind.u64.wrap (N : Int) = (N : Int) := IntWalk.u64_in _ (by omega)
  have nN : ¬ (N : Int) = 0 := by omega
  have kK : (y % 2 ^ N) % N < N := Nat.mod_lt _ h0
  have hk : ((y % 2 ^ N : Nat) : Int) % (N : Int) = (((y % 2 ^ N) % N : Nat) : Int) := (Int.natCast_emod _ _).symm
  have KK := Lib.hid (show ∃ K, K = (y % 2 ^ N) % N from ⟨_, rfl⟩)
  obtain ⟨K, hK⟩ := KK.out
  rw [← hK] at hk kK
  have eK : IntKind.i64.wrap (K : Int) = (K : Int) := IntWalk.i64_in _ (by omega)
  have WA := wd_lst N x
  have WB := wd_lst N y
  have lA := lst_length N x
  have lB := lst_length N y
  have HK := Lib.hid hK
  have WO := fun (w : World) (v : Value) (B : Nat) (h : Bits w v (lst N y) B) => word_ok (lst N y) (by omega) h
  rw [WB] at WO
  obtain ⟨la, hla⟩ : ∃ l, l = lst N x := ⟨_, rfl⟩
  obtain ⟨lb, hlb⟩ : ∃ l, l = lst N y := ⟨_, rfl⟩
  rw [← hla] at WA lA
  rw [← hlb] at WB lB WO
  have HLA := hla.symm
  have HLB := hlb.symm
  have HH := Lib.hid (And.intro WA (And.intro WB (And.intro lA lB)))
  obtain ⟨Y, hY⟩ : ∃ Y, Y = y % 2 ^ N := ⟨_, rfl⟩
  rw [← hY] at WO hk
  have WO := Lib.hid WO
  have HY := Lib.hid hY
  clear hY
  have HLA2 := Lib.hid HLA
  have HLB2 := Lib.hid HLB
  clear WA WB lA lB hK hla hlb KK HLA HLB
  go_enter Try.func11, Try.ntmps11
  go_wp2_with fail
  refine (LA.out _).mono ?_
  rintro e w2 ⟨va, rfl, ba, t2⟩
  rw [HLA2.out] at ba
  have BA := Lib.hid ba
  have T2 := Lib.hid t2
  clear ba t2
  go_wp2_with fail
  refine (LB.out _).mono ?_
  rintro e w3 ⟨vb, rfl, bb, t3⟩
  rw [HLB2.out] at bb
  have T3 := Lib.hid (T2.out.trans t3)
  have BA3 := Lib.hid (BA.out.fresh t3)
  have BB3 := Lib.hid bb
  clear t3 bb
  go_wp2_with fail
  refine (WO.out _ _ _ BB3.out).mono ?_
  rintro e w4 ⟨rfl, rfl⟩
  have hbx := BA3.out
  obtain ⟨g, cp, cur, hva, hB, hg, hc⟩ := hbx
  have hcell := bits_cell hg hc (N - 1) (by rw [HH.out.2.2.1]; omega)
  have lA := HH.out.2.2.1
  rw [lA] at hva
  subst hva
  clear hg hc hB lA
  have hbx := BB3.out
  obtain ⟨g2, cp2, cur2, hva, hB, hg, hc⟩ := hbx
  have hcell2 := bits_cell hg hc (N - 1) (by rw [HH.out.2.2.2]; omega)
  have lB := HH.out.2.2.2
  rw [lB] at hva
  subst hva
  clear hg hc hB lB
  have eN1 : IntKind.i64.wrap ((N : Int) - 1) = ((N - 1 : Nat) : Int) := by rw [IntWalk.i64_in _ (by omega)]; omega
  have tb : la.getD (N - 1) false = true := by rw [← HLA2.out, lst_top N x h0]; simp [hta]
  have tb2 : lb.getD (N - 1) false = true := by rw [← HLB2.out, lst_top N y h0]; simp [htb]
  rw [tb] at hcell
  rw [tb2] at hcell2
  clear tb tb2 hta htb
  have hz2 : wd lb ≠ 0 := by rw [HH.out.2.1]; exact hz
  have ZR := zero_ok lb N HH.out.2.2.2 (by omega) BB3.out
  rw [show decide (wd lb = 0) = false by simpa using hz2] at ZR
  have ZR := Lib.hid ZR
  clear hz2 hz
  go_wp2_with fail
  refine ZR.out.mono ?_
  rintro e w5 ⟨rfl, rfl⟩
  go_wp2_with fail
  go_quiet (fail)
  have T4 := Lib.hid (T3.out.trans (Touch.drewN _ w3 nq))
  have BA4 := Lib.hid (BA3.out.fresh (Touch.drewN _ w3 nq))
  have BB4 := Lib.hid (BB3.out.fresh (Touch.drewN _ w3 nq))
  have hLa : Hid ((negL la N).length = N ∧ wd (negL la N) = (2 ^ N - x % 2 ^ N) % 2 ^ N) := Lib.hid ⟨negL_length la N, by rw [wd_neg la N HH.out.2.2.1, HH.out.1]⟩
  have hLb : Hid ((negL lb N).length = N ∧ wd (negL lb N) = (2 ^ N - y % 2 ^ N) % 2 ^ N) := Lib.hid ⟨negL_length lb N, by rw [wd_neg lb N HH.out.2.2.2, HH.out.2.1]⟩
  go_wp2_with fail
  refine (neg_ok la N HH.out.2.2.1 h0 (by omega) BA4.out).mono ?_
  rintro e wa ⟨va, rfl, ba, ta⟩
  have T5 := Lib.hid (T4.out.trans ta)
  have BA5 := Lib.hid ba
  have BB5 := Lib.hid (BB4.out.fresh ta)
  clear ba ta
  go_wp2_with fail
  refine (neg_ok lb N HH.out.2.2.2 h0 (by omega) BB5.out).mono ?_
  rintro e wb ⟨vb, rfl, bb, tb⟩
  have T6 := Lib.hid (T5.out.trans tb)
  have BA6 := Lib.hid (BA5.out.fresh tb)
  have BB6 := Lib.hid bb
  clear bb tb
  go_wp2_with fail
  refine (divide_ok (negL la N) (negL lb N) N hLa.out.1 hLb.out.1 h0 (by omega) (by rw [hLb.out.2]; exact HZ'.out) BA6.out BB6.out).mono ?_
  rintro e w6 ⟨v6, u6, Q, R, rfl, lQ, lR, wQ, wR, bQ, bR, t6⟩
  have T7 := Lib.hid (T6.out.trans t6)
  have BQ := Lib.hid bQ
  have BR := Lib.hid bR
  have WQ := Lib.hid (show wd Q = (((2 ^ N - x % 2 ^ N) % 2 ^ N) / ((2 ^ N - y % 2 ^ N) % 2 ^ N)) by rw [wQ, hLa.out.2, hLb.out.2])
  have WR := Lib.hid (show wd R = (((2 ^ N - x % 2 ^ N) % 2 ^ N) % ((2 ^ N - y % 2 ^ N) % 2 ^ N)) by rw [wR, hLa.out.2, hLb.out.2])
  have LQ := Lib.hid (And.intro lQ lR)
  clear bQ bR t6 wQ wR lQ lR
  have hbx := BQ.out
  obtain ⟨g7, cp7, cur7, hv7, hB7, hg7, hc7⟩ := hbx
  have hcell7 := bits_cell hg7 hc7 (N - 1) (by rw [LQ.out.1]; omega)
  have tq : Q.getD (N - 1) false = true := by
    rw [← wd_bit, WQ.out, Nat.testBit_eq_decide_div_mod_eq, HOV.out]; rfl
  rw [tq] at hcell7
  have lQ := LQ.out.1
  rw [lQ] at hv7
  subst hv7
  clear hg7 hc7 hB7 tq lQ
  go_wp2_with fail
  go_ret2
  exact ⟨by rw [← HV.out]; rfl, T7.out⟩

set_option maxRecDepth 100000 in
set_option maxHeartbeats 2000000 in
theorem ref_divs_tt_n (hta : x / 2 ^ (N - 1) % 2 = 1) (htb : y / 2 ^ (N - 1) % 2 = 1) (hz : y % 2 ^ N ≠ 0) (hz' : (2 ^ N - y % 2 ^ N) % 2 ^ N ≠ 0) (hov : (((2 ^ N - x % 2 ^ N) % 2 ^ N) / ((2 ^ N - y % 2 ^ N) % 2 ^ N)) / 2 ^ (N - 1) % 2 = 0) (v : Nat) (hv : (((2 ^ N - x % 2 ^ N) % 2 ^ N) / ((2 ^ N - y % 2 ^ N) % 2 ^ N)) = v) : Calls Try.prog 11 #[.int .i64 3, .int .i64 N, .int .u64 x, .int .u64 y] w (R2 v 0 w) := by
  have HV := Lib.hid hv
  have HZ' := Lib.hid hz'
  clear hv hz'
  have HOV := Lib.hid hov
  clear hov
  have LA := Lib.hid (fun w => list_ok N x h0 hn hx w)
  have LB := Lib.hid (fun w => list_ok N y h0 hn hy w)
  have eN : IntKind.u64.wrap (N : Int) = (N : Int) := IntWalk.u64_in _ (by omega)
  have nN : ¬ (N : Int) = 0 := by omega
  have kK : (y % 2 ^ N) % N < N := Nat.mod_lt _ h0
  have hk : ((y % 2 ^ N : Nat) : Int) % (N : Int) = (((y % 2 ^ N) % N : Nat) : Int) := (Int.natCast_emod _ _).symm
  have KK := Lib.hid (show ∃ K, K = (y % 2 ^ N) % N from ⟨_, rfl⟩)
  obtain ⟨K, hK⟩ := KK.out
  rw [← hK] at hk kK
  have eK : IntKind.i64.wrap (K : Int) = (K : Int) := IntWalk.i64_in _ (by omega)
  have WA := wd_lst N x
  have WB := wd_lst N y
  have lA := lst_length N x
  have lB := lst_length N y
  have HK := Lib.hid hK
  have WO := fun (w : World) (v : Value) (B : Nat) (h : Bits w v (lst N y) B) => word_ok (lst N y) (by omega) h
  rw [WB] at WO
  obtain ⟨la, hla⟩ : ∃ l, l = lst N x := ⟨_, rfl⟩
  obtain ⟨lb, hlb⟩ : ∃ l, l = lst N y := ⟨_, rfl⟩
  rw [← hla] at WA lA
  rw [← hlb] at WB lB WO
  have HLA := hla.symm
  have HLB := hlb.symm
  have HH := Lib.hid (And.intro WA (And.intro WB (And.intro lA lB)))
  obtain ⟨Y, hY⟩ : ∃ Y, Y = y % 2 ^ N := ⟨_, rfl⟩
  rw [← hY] at WO hk
  have WO := Lib.hid WO
  have HY := Lib.hid hY
  clear hY
  have HLA2 := Lib.hid HLA
  have HLB2 := Lib.hid HLB
  clear WA WB lA lB hK hla hlb KK HLA HLB
  go_enter Try.func11, Try.ntmps11
  go_wp2_with fail
  refine (LA.out _).mono ?_
  rintro e w2 ⟨va, rfl, ba, t2⟩
  rw [HLA2.out] at ba
  have BA := Lib.hid ba
  have T2 := Lib.hid t2
  clear ba t2
  go_wp2_with fail
  refine (LB.out _).mono ?_
  rintro e w3 ⟨vb, rfl, bb, t3⟩
  rw [HLB2.out] at bb
  have T3 := Lib.hid (T2.out.trans t3)
  have BA3 := Lib.hid (BA.out.fresh t3)
  have BB3 := Lib.hid bb
  clear t3 bb
  go_wp2_with fail
  refine (WO.out _ _ _ BB3.out).mono ?_
  rintro e w4 ⟨rfl, rfl⟩
  have hbx := BA3.out
  obtain ⟨g, cp, cur, hva, hB, hg, hc⟩ := hbx
  have hcell := bits_cell hg hc (N - 1) (by rw [HH.out.2.2.1]; omega)
  have lA := HH.out.2.2.1
  rw [lA] at hva
  subst hva
  clear hg hc hB lA
  have hbx := BB3.out
  obtain ⟨g2, cp2, cur2, hva, hB, hg, hc⟩ := hbx
  have hcell2 := bits_cell hg hc (N - 1) (by rw [HH.out.2.2.2]; omega)
  have lB := HH.out.2.2.2
  rw [lB] at hva
  subst hva
  clear hg hc hB lB
  have eN1 : IntKind.i64.wrap ((N : Int) - 1) = ((N - 1 : Nat) : Int) := by rw [IntWalk.i64_in _ (by omega)]; omega
  have tb : la.getD (N - 1) false = true := by rw [← HLA2.out, lst_top N x h0]; simp [hta]
  have tb2 : lb.getD (N - 1) false = true := by rw [← HLB2.out, lst_top N y h0]; simp [htb]
  rw [tb] at hcell
  rw [tb2] at hcell2
  clear tb tb2 hta htb
  have hz2 : wd lb ≠ 0 := by rw [HH.out.2.1]; exact hz
  have ZR := zero_ok lb N HH.out.2.2.2 (by omega) BB3.out
  rw [show decide (wd lb = 0) = false by simpa using hz2] at ZR
  have ZR := Lib.hid ZR
  clear hz2 hz
  go_wp2_with fail
  refine ZR.out.mono ?_
  rintro e w5 ⟨rfl, rfl⟩
  go_wp2_with fail
  go_quiet (fail)
  have T4 := Lib.hid (T3.out.trans (Touch.drewN _ w3 nq))
  have BA4 := Lib.hid (BA3.out.fresh (Touch.drewN _ w3 nq))
  have BB4 := Lib.hid (BB3.out.fresh (Touch.drewN _ w3 nq))
  have hLa : Hid ((negL la N).length = N ∧ wd (negL la N) = (2 ^ N - x % 2 ^ N) % 2 ^ N) := Lib.hid ⟨negL_length la N, by rw [wd_neg la N HH.out.2.2.1, HH.out.1]⟩
  have hLb : Hid ((negL lb N).length = N ∧ wd (negL lb N) = (2 ^ N - y % 2 ^ N) % 2 ^ N) := Lib.hid ⟨negL_length lb N, by rw [wd_neg lb N HH.out.2.2.2, HH.out.2.1]⟩
  go_wp2_with fail
  refine (neg_ok la N HH.out.2.2.1 h0 (by omega) BA4.out).mono ?_
  rintro e wa ⟨va, rfl, ba, ta⟩
  have T5 := Lib.hid (T4.out.trans ta)
  have BA5 := Lib.hid ba
  have BB5 := Lib.hid (BB4.out.fresh ta)
  clear ba ta
  go_wp2_with fail
  refine (neg_ok lb N HH.out.2.2.2 h0 (by omega) BB5.out).mono ?_
  rintro e wb ⟨vb, rfl, bb, tb⟩
  have T6 := Lib.hid (T5.out.trans tb)
  have BA6 := Lib.hid (BA5.out.fresh tb)
  have BB6 := Lib.hid bb
  clear bb tb
  go_wp2_with fail
  refine (divide_ok (negL la N) (negL lb N) N hLa.out.1 hLb.out.1 h0 (by omega) (by rw [hLb.out.2]; exact HZ'.out) BA6.out BB6.out).mono ?_
  rintro e w6 ⟨v6, u6, Q, R, rfl, lQ, lR, wQ, wR, bQ, bR, t6⟩
  have T7 := Lib.hid (T6.out.trans t6)
  have BQ := Lib.hid bQ
  have BR := Lib.hid bR
  have WQ := Lib.hid (show wd Q = (((2 ^ N - x % 2 ^ N) % 2 ^ N) / ((2 ^ N - y % 2 ^ N) % 2 ^ N)) by rw [wQ, hLa.out.2, hLb.out.2])
  have WR := Lib.hid (show wd R = (((2 ^ N - x % 2 ^ N) % 2 ^ N) % ((2 ^ N - y % 2 ^ N) % 2 ^ N)) by rw [wR, hLa.out.2, hLb.out.2])
  have LQ := Lib.hid (And.intro lQ lR)
  clear bQ bR t6 wQ wR lQ lR
  have hbx := BQ.out
  obtain ⟨g7, cp7, cur7, hv7, hB7, hg7, hc7⟩ := hbx
  have hcell7 := bits_cell hg7 hc7 (N - 1) (by rw [LQ.out.1]; omega)
  have tq : Q.getD (N - 1) false = false := by
    rw [← wd_bit, WQ.out, Nat.testBit_eq_decide_div_mod_eq, HOV.out]; rfl
  rw [tq] at hcell7
  have lQ := LQ.out.1
  rw [lQ] at hv7
  subst hv7
  clear hg7 hc7 hB7 tq lQ
  have WL := Lib.hid (word_ok (Q) (by rw [LQ.out.1]; exact hn) BQ.out)
  have VV := Lib.hid (show wd (Q) = v by rw [WQ.out]; exact HV.out)
  generalize wd (Q) = r at *
  go_wp2_with fail
  refine WL.out.mono ?_
  rintro e w9 ⟨rfl, rfl⟩
  go_wp2_with fail
  go_ret2
  exact ⟨by rw [← VV.out]; rfl, T7.out⟩
end
end Go.Proofs.Ytphhgmeokmemlaa
