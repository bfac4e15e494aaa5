/- StackPlays: a word set. -/
import Derived.Test.YtmjnoboeffajbaaPg
namespace Go.Proofs.Ytmjnoboeffajbaa
open Go.RowKit Go.Maps
set_option linter.unusedSimpArgs false
set_option linter.unusedVariables false

set_option maxRecDepth 1000000 in
set_option maxHeartbeats 4000000 in
theorem case_setIn {w : World} {n q p : Nat} {A0 : Ar} {R : Rp} {wr : World} {u : Nat → Value} {j : Nat} {ms : List Nat} {a : Option Addr} {cap g o len0 cap0 : Nat} {kind xn xk : Int} {la : Option Addr} {ll lc : Nat} {zs : List Int}
    (H : Rnd w n q p A0 R wr u j ms a cap g o len0 cap0 kind xn xk la ll lc zs) {K0 : Act → World → Prop} (h50 : ¬ 50 < ll) (hk : kind % 6 = 4) (hr0 : 0 ≤ xn) (hr1 : xn < (ms.length : Int)) :
    Code.wp Try.prog body15 (POut w n q p A0 R j g o len0 cap0 K0) (frame15 u) wr := by
  obtain ⟨u1, u2, u7, u9, u10, u11, u12, hj, l60, d0, d1, d2, d3, X, PX, row, hkr, hnr, hkr2, hzn, hml, hn1, hn2⟩ := H
  conv => arg 2; whnf
  simp only [frame15, u1, u2, u7, u9, u10, u11, u12]
  clear u1 u2 u7 u9 u10 u11 u12
  have XA := Lib.hid X
  have ROW := Lib.hid row
  have ew : IntKind.i64.wrap ((n : Int) - (ms.length : Int)) = (n : Int) - (ms.length : Int) := IntWalk.i64_in _ (by omega)
  clear X row
  obtain ⟨i, rfl⟩ := Int.eq_ofNat_of_zero_le hr0
  rcases PX.row.form with ⟨_, _, hf⟩ | ⟨gm, rfl, hcap, _⟩
  · rw [hf] at hr1; simp at hr1; omega
  have hi : i < ms.length := by omega
  have hvr : 0 ≤ IntKind.u64.wrap xk ∧ IntKind.u64.wrap xk < 18446744073709551616 := by rw [IntKind.wrap_u64]; omega
  obtain ⟨v, hv⟩ := Int.eq_ofNat_of_zero_le hvr.1
  have CA := Lib.hid (PX.set i v hi (by omega))
  have hv : IntKind.u64.wrap xk = (v : Int) := hv
  clear PX hvr
  go_wp2_with fail
  refine CA.out.mono ?_
  rintro e w6 ⟨rfl, P6, t6⟩
  have X6 := XA.out.kept t6 hzn
  have c1 := X6.c1
  have M6 := P6.row.cell hi
  have f6 := P6.row.frozenAt i
  have P7 := Lib.hid (P6.stored hi v)
  clear CA t6 X6 P6
  go_wp2_with fail
  have HT := Lib.hid P7.out.height
  clear XA
  go_wp2_with fail
  refine HT.out.mono ?_
  rintro e w8 ⟨rfl, P8, t8⟩
  have RM := Lib.hid P8.room
  clear HT t8
  go_wp2_with fail
  refine RM.out.mono ?_
  rintro e w9 ⟨rfl, P9, t9⟩
  clear RM P8 t9
  go_wp2_with fail
  exact ⟨WI.intro rfl ⟨j + 1, ms.set i v, _, _, by simp, by go_num, by omega, P9, rfl, rfl, rfl, rfl, rfl⟩, by simp [Wmu, intOf]; omega⟩

set_option maxRecDepth 1000000 in
set_option maxHeartbeats 4000000 in
theorem case_setOut {w : World} {n q p : Nat} {A0 : Ar} {R : Rp} {wr : World} {u : Nat → Value} {j : Nat} {ms : List Nat} {a : Option Addr} {cap g o len0 cap0 : Nat} {kind xn xk : Int} {la : Option Addr} {ll lc : Nat} {zs : List Int}
    (H : Rnd w n q p A0 R wr u j ms a cap g o len0 cap0 kind xn xk la ll lc zs) {K0 : Act → World → Prop} (h50 : ¬ 50 < ll) (hk : kind % 6 = 4) (hr : xn < 0 ∨ (ms.length : Int) ≤ xn) :
    Code.wp Try.prog body15 (POut w n q p A0 R j g o len0 cap0 K0) (frame15 u) wr := by
  obtain ⟨u1, u2, u7, u9, u10, u11, u12, hj, l60, d0, d1, d2, d3, X, PX, row, hkr, hnr, hkr2, hzn, hml, hn1, hn2⟩ := H
  conv => arg 2; whnf
  simp only [frame15, u1, u2, u7, u9, u10, u11, u12]
  clear u1 u2 u7 u9 u10 u11 u12
  have XA := Lib.hid X
  have ROW := Lib.hid row
  have ew : IntKind.i64.wrap ((n : Int) - (ms.length : Int)) = (n : Int) - (ms.length : Int) := IntWalk.i64_in _ (by omega)
  clear X row
  have CA := Lib.hid (PX.setR xn (IntKind.u64.wrap xk) hr)
  clear PX
  by_cases hneg : xn < 0
  · clear hr
    have hneg2 : ¬ 0 ≤ xn := by omega
    go_wp2_with fail
    refine CA.out.mono ?_
    rintro e w6 ⟨rfl, P6, t6⟩
    have X6 := XA.out.kept t6 hzn
    have c1 := X6.c1
    clear CA t6 X6
    go_wp2_with fail
    have HT := Lib.hid P6.height
    clear XA
    go_wp2_with fail
    refine HT.out.mono ?_
    rintro e w8 ⟨rfl, P8, t8⟩
    have RM := Lib.hid P8.room
    clear HT t8
    go_wp2_with fail
    refine RM.out.mono ?_
    rintro e w9 ⟨rfl, P9, t9⟩
    clear RM P8 t9
    go_wp2_with fail
    exact ⟨WI.intro rfl ⟨j + 1, ms, _, _, rfl, by go_num, by omega, P9, rfl, rfl, rfl, rfl, rfl⟩, by simp [Wmu, intOf]; omega⟩
  · have hbig : ¬ xn < (ms.length : Int) := by omega
    have hpos : 0 ≤ xn := by omega
    clear hr
    go_wp2_with fail
    refine CA.out.mono ?_
    rintro e w6 ⟨rfl, P6, t6⟩
    have X6 := XA.out.kept t6 hzn
    have c1 := X6.c1
    clear CA t6 X6
    go_wp2_with fail
    have HT := Lib.hid P6.height
    clear XA
    go_wp2_with fail
    refine HT.out.mono ?_
    rintro e w8 ⟨rfl, P8, t8⟩
    have RM := Lib.hid P8.room
    clear HT t8
    go_wp2_with fail
    refine RM.out.mono ?_
    rintro e w9 ⟨rfl, P9, t9⟩
    clear RM P8 t9
    go_wp2_with fail
    exact ⟨WI.intro rfl ⟨j + 1, ms, _, _, rfl, by go_num, by omega, P9, rfl, rfl, rfl, rfl, rfl⟩, by simp [Wmu, intOf]; omega⟩
end Go.Proofs.Ytmjnoboeffajbaa
