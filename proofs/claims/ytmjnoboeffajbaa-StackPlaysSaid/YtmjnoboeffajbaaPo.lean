/- StackPlays: unwound out of range. -/
import Derived.Test.YtmjnoboeffajbaaPg
namespace Go.Proofs.Ytmjnoboeffajbaa
open Go.RowKit Go.Maps
set_option linter.unusedSimpArgs false
set_option linter.unusedVariables false

set_option maxRecDepth 1000000 in
set_option maxHeartbeats 4000000 in
theorem case_unwindR {w : World} {n q p : Nat} {A0 : Ar} {R : Rp} {wr : World} {u : Nat → Value} {j : Nat} {ms : List Nat} {a : Option Addr} {cap g o len0 cap0 : Nat} {kind xn xk : Int} {la : Option Addr} {ll lc : Nat} {zs : List Int}
    (H : Rnd w n q p A0 R wr u j ms a cap g o len0 cap0 kind xn xk la ll lc zs) {K0 : Act → World → Prop} (h50 : ¬ 50 < ll) (hk : kind % 6 = 5) (hr : xn < 0 ∨ xk < 0 ∨ (ms.length : Int) < xk ∨ (ms.length : Int) - xk < xn) :
    Code.wp Try.prog body15 (POut w n q p A0 R j g o len0 cap0 K0) (frame15 u) wr := by
  obtain ⟨u1, u2, u7, u9, u10, u11, u12, hj, l60, d0, d1, d2, d3, X, PX, row, hkr, hnr, hkr2, hzn, hml, hn1, hn2⟩ := H
  conv => arg 2; whnf
  simp only [frame15, u1, u2, u7, u9, u10, u11, u12]
  clear u1 u2 u7 u9 u10 u11 u12
  have XA := Lib.hid X
  have ROW := Lib.hid row
  have ew : IntKind.i64.wrap ((n : Int) - (ms.length : Int)) = (n : Int) - (ms.length : Int) := IntWalk.i64_in _ (by omega)
  clear X row
  have CA := Lib.hid (PX.unwindR xn xk hr (by omega))
  clear PX
  by_cases h1 : xn < 0
  · clear hr
    go_wp2_with fail
    refine CA.out.mono ?_
    rintro e w6 ⟨rfl, P6, t6⟩
    have X6 := XA.out.kept t6 hzn
    have c1 := X6.c1
    have c2 := X6.c2
    clear CA t6 X6
    go_wp2_with fail
    have HT := Lib.hid P6.height
    clear XA
    go_wp2_with fail
    refine HT.out.mono ?_
    rintro e w8 ⟨rfl, P8, t8⟩
    have RM := Lib.hid P8.room
    clear HT t8
    go_wp2_with fail
    refine RM.out.mono ?_
    rintro e w9 ⟨rfl, P9, t9⟩
    clear RM P8 t9
    go_wp2_with fail
    exact ⟨WI.intro rfl ⟨j + 1, ms, _, _, rfl, by go_num, by omega, P9, rfl, rfl, rfl, rfl, rfl⟩, by simp [Wmu, intOf]; omega⟩
  by_cases h2 : xk < 0
  · clear hr
    go_wp2_with fail
    refine CA.out.mono ?_
    rintro e w6 ⟨rfl, P6, t6⟩
    have X6 := XA.out.kept t6 hzn
    have c1 := X6.c1
    have c2 := X6.c2
    clear CA t6 X6
    go_wp2_with fail
    have HT := Lib.hid P6.height
    clear XA
    go_wp2_with fail
    refine HT.out.mono ?_
    rintro e w8 ⟨rfl, P8, t8⟩
    have RM := Lib.hid P8.room
    clear HT t8
    go_wp2_with fail
    refine RM.out.mono ?_
    rintro e w9 ⟨rfl, P9, t9⟩
    clear RM P8 t9
    go_wp2_with fail
    exact ⟨WI.intro rfl ⟨j + 1, ms, _, _, rfl, by go_num, by omega, P9, rfl, rfl, rfl, rfl, rfl⟩, by simp [Wmu, intOf]; omega⟩
  by_cases h3 : (ms.length : Int) < xk
  · clear hr
    go_wp2_with fail
    refine CA.out.mono ?_
    rintro e w6 ⟨rfl, P6, t6⟩
    have X6 := XA.out.kept t6 hzn
    have c1 := X6.c1
    have c2 := X6.c2
    clear CA t6 X6
    go_wp2_with fail
    have HT := Lib.hid P6.height
    clear XA
    go_wp2_with fail
    refine HT.out.mono ?_
    rintro e w8 ⟨rfl, P8, t8⟩
    have RM := Lib.hid P8.room
    clear HT t8
    go_wp2_with fail
    refine RM.out.mono ?_
    rintro e w9 ⟨rfl, P9, t9⟩
    clear RM P8 t9
    go_wp2_with fail
    exact ⟨WI.intro rfl ⟨j + 1, ms, _, _, rfl, by go_num, by omega, P9, rfl, rfl, rfl, rfl, rfl⟩, by simp [Wmu, intOf]; omega⟩
  have h4 : (ms.length : Int) - xk < xn := by omega
  have e4 : IntKind.i64.wrap ((ms.length : Int) - xk) = (ms.length : Int) - xk := IntWalk.i64_in _ (by omega)
  clear hr
  go_wp2_with fail
  refine CA.out.mono ?_
  rintro e w6 ⟨rfl, P6, t6⟩
  have X6 := XA.out.kept t6 hzn
  have c1 := X6.c1
  have c2 := X6.c2
  clear CA t6 X6
  go_wp2_with fail
  have HT := Lib.hid P6.height
  clear XA
  go_wp2_with fail
  refine HT.out.mono ?_
  rintro e w8 ⟨rfl, P8, t8⟩
  have RM := Lib.hid P8.room
  clear HT t8
  go_wp2_with fail
  refine RM.out.mono ?_
  rintro e w9 ⟨rfl, P9, t9⟩
  clear RM P8 t9
  go_wp2_with fail
  exact ⟨WI.intro rfl ⟨j + 1, ms, _, _, rfl, by go_num, by omega, P9, rfl, rfl, rfl, rfl, rfl⟩, by simp [Wmu, intOf]; omega⟩
end Go.Proofs.Ytmjnoboeffajbaa
