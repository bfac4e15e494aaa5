/- StackPlays: no words taken of none; a word got. -/
import Derived.Test.YtmjnoboeffajbaaPg
namespace Go.Proofs.Ytmjnoboeffajbaa
open Go.RowKit Go.Maps
set_option linter.unusedSimpArgs false
set_option linter.unusedVariables false

set_option maxRecDepth 1000000 in
set_option maxHeartbeats 4000000 in
theorem case_takeNone {w : World} {n q p : Nat} {A0 : Ar} {R : Rp} {wr : World} {u : Nat → Value} {j : Nat} {ms : List Nat} {a : Option Addr} {cap g o len0 cap0 : Nat} {kind xn xk : Int} {la : Option Addr} {ll lc : Nat} {zs : List Int}
    (H : Rnd w n q p A0 R wr u j ms a cap g o len0 cap0 kind xn xk la ll lc zs) {K0 : Act → World → Prop} (h50 : ¬ 50 < ll) (hk : kind % 6 = 2) (hr0 : 0 ≤ xn) (hr1 : xn ≤ (ms.length : Int)) (ha : a = Option.none) :
    Code.wp Try.prog body15 (POut w n q p A0 R j g o len0 cap0 K0) (frame15 u) wr := by
  obtain ⟨u1, u2, u7, u9, u10, u11, u12, hj, l60, d0, d1, d2, d3, X, PX, row, hkr, hnr, hkr2, hzn, hml, hn1, hn2⟩ := H
  conv => arg 2; whnf
  simp only [frame15, u1, u2, u7, u9, u10, u11, u12]
  clear u1 u2 u7 u9 u10 u11 u12
  have XA := Lib.hid X
  have ROW := Lib.hid row
  have ew : IntKind.i64.wrap ((n : Int) - (ms.length : Int)) = (n : Int) - (ms.length : Int) := IntWalk.i64_in _ (by omega)
  clear X row
  subst ha
  rcases PX.row.form with ⟨_, rfl, rfl⟩ | ⟨gm, h, _⟩
  rotate_left
  · cases h
  obtain rfl : xn = 0 := by simp at hr1; omega
  have CA0 := PX.take 0 (Nat.zero_le _)
  rw [show ((0 : Nat) : Int) = 0 from rfl] at CA0
  have CA := Lib.hid CA0
  clear PX CA0
  go_wp2_with fail
  refine CA.out.mono ?_
  rintro e w6 ⟨x, c, rfl, G6, P6, t6⟩
  clear CA t6 G6
  go_wp2_with fail
  go_loopw [20] (fun kv wl => kv = .int .i64 0 ∧ Touch (fun _ => False) w6 wl) (fun kv _ => 0 - (intOf kv).toNat)
  case atStart => exact ⟨rfl, Touch.refl _ _⟩
  case round =>
    obtain ⟨rfl, tl⟩ := hrel
    have P8 := P6.fresh tl
    obtain ⟨a2, c2, w9, hap, b9⟩ := uapp (UBld.lit (Touch.refl (fun _ => False) wr)) (L := []) (.inl ⟨rfl, rfl⟩) (by simp)
    have P9 := P8.built b9 (by simp)
    have HAP := Lib.hid hap
    clear P6 P8 tl hap b9
    have HT := Lib.hid P9.height
    clear XA
    go_wp2_with (at_builtin; refine wpList_append_run rfl _ _ 52 52 rfl rfl rfl HAP.out ?_)
    refine HT.out.mono ?_
    rintro e w8 ⟨rfl, P8, t8⟩
    have RM := Lib.hid P8.room
    clear HT t8
    go_wp2_with fail
    refine RM.out.mono ?_
    rintro e w9 ⟨rfl, P9, t9⟩
    clear RM P8 t9
    go_wp2_with fail
    exact ⟨WI.intro rfl ⟨j + 1, [], _, _, rfl, by go_num, by omega, P9, rfl, rfl, rfl, rfl, rfl⟩, by simp [Wmu, intOf]; omega⟩

set_option maxRecDepth 1000000 in
set_option maxHeartbeats 4000000 in
theorem case_getIn {w : World} {n q p : Nat} {A0 : Ar} {R : Rp} {wr : World} {u : Nat → Value} {j : Nat} {ms : List Nat} {a : Option Addr} {cap g o len0 cap0 : Nat} {kind xn xk : Int} {la : Option Addr} {ll lc : Nat} {zs : List Int}
    (H : Rnd w n q p A0 R wr u j ms a cap g o len0 cap0 kind xn xk la ll lc zs) {K0 : Act → World → Prop} (h50 : ¬ 50 < ll) (hk : kind % 6 = 3) (hr0 : 0 ≤ xn) (hr1 : xn < (ms.length : Int)) :
    Code.wp Try.prog body15 (POut w n q p A0 R j g o len0 cap0 K0) (frame15 u) wr := by
  obtain ⟨u1, u2, u7, u9, u10, u11, u12, hj, l60, d0, d1, d2, d3, X, PX, row, hkr, hnr, hkr2, hzn, hml, hn1, hn2⟩ := H
  conv => arg 2; whnf
  simp only [frame15, u1, u2, u7, u9, u10, u11, u12]
  clear u1 u2 u7 u9 u10 u11 u12
  have XA := Lib.hid X
  have ROW := Lib.hid row
  have ew : IntKind.i64.wrap ((n : Int) - (ms.length : Int)) = (n : Int) - (ms.length : Int) := IntWalk.i64_in _ (by omega)
  clear X row
  obtain ⟨i, rfl⟩ := Int.eq_ofNat_of_zero_le hr0
  rcases PX.row.form with ⟨_, _, hf⟩ | ⟨gm, rfl, hcap, _⟩
  · rw [hf] at hr1; simp at hr1; omega
  have hi : i < ms.length := by omega
  have CA := Lib.hid (PX.get i hi)
  clear PX
  obtain ⟨v, hv⟩ : ∃ v, v = ms.getD i 0 := ⟨_, rfl⟩
  rw [← hv] at CA
  have HV := Lib.hid hv
  clear hv
  go_wp2_with fail
  refine CA.out.mono ?_
  rintro e w6 ⟨rfl, P6, t6⟩
  have X6 := XA.out.kept t6 hzn
  have c1 := X6.c1
  have M6 := P6.row.cell hi
  rw [← HV.out] at M6
  clear CA t6 X6
  go_wp2_with fail
  have HT := Lib.hid P6.height
  clear XA
  go_wp2_with fail
  refine HT.out.mono ?_
  rintro e w8 ⟨rfl, P8, t8⟩
  have RM := Lib.hid P8.room
  clear HT t8
  go_wp2_with fail
  refine RM.out.mono ?_
  rintro e w9 ⟨rfl, P9, t9⟩
  clear RM P8 t9
  go_wp2_with fail
  exact ⟨WI.intro rfl ⟨j + 1, ms, _, _, rfl, by go_num, by omega, P9, rfl, rfl, rfl, rfl, rfl⟩, by simp [Wmu, intOf]; omega⟩

set_option maxRecDepth 1000000 in
set_option maxHeartbeats 4000000 in
theorem case_getOut {w : World} {n q p : Nat} {A0 : Ar} {R : Rp} {wr : World} {u : Nat → Value} {j : Nat} {ms : List Nat} {a : Option Addr} {cap g o len0 cap0 : Nat} {kind xn xk : Int} {la : Option Addr} {ll lc : Nat} {zs : List Int}
    (H : Rnd w n q p A0 R wr u j ms a cap g o len0 cap0 kind xn xk la ll lc zs) {K0 : Act → World → Prop} (h50 : ¬ 50 < ll) (hk : kind % 6 = 3) (hr : xn < 0 ∨ (ms.length : Int) ≤ xn) :
    Code.wp Try.prog body15 (POut w n q p A0 R j g o len0 cap0 K0) (frame15 u) wr := by
  obtain ⟨u1, u2, u7, u9, u10, u11, u12, hj, l60, d0, d1, d2, d3, X, PX, row, hkr, hnr, hkr2, hzn, hml, hn1, hn2⟩ := H
  conv => arg 2; whnf
  simp only [frame15, u1, u2, u7, u9, u10, u11, u12]
  clear u1 u2 u7 u9 u10 u11 u12
  have XA := Lib.hid X
  have ROW := Lib.hid row
  have ew : IntKind.i64.wrap ((n : Int) - (ms.length : Int)) = (n : Int) - (ms.length : Int) := IntWalk.i64_in _ (by omega)
  clear X row
  have CA := Lib.hid (PX.getR xn hr)
  clear PX
  by_cases hneg : xn < 0
  · clear hr
    have hneg2 : ¬ 0 ≤ xn := by omega
    go_wp2_with fail
    refine CA.out.mono ?_
    rintro e w6 ⟨rfl, P6, t6⟩
    have X6 := XA.out.kept t6 hzn
    have c1 := X6.c1
    clear CA t6 X6
    go_wp2_with fail
    have HT := Lib.hid P6.height
    clear XA
    go_wp2_with fail
    refine HT.out.mono ?_
    rintro e w8 ⟨rfl, P8, t8⟩
    have RM := Lib.hid P8.room
    clear HT t8
    go_wp2_with fail
    refine RM.out.mono ?_
    rintro e w9 ⟨rfl, P9, t9⟩
    clear RM P8 t9
    go_wp2_with fail
    exact ⟨WI.intro rfl ⟨j + 1, ms, _, _, rfl, by go_num, by omega, P9, rfl, rfl, rfl, rfl, rfl⟩, by simp [Wmu, intOf]; omega⟩
  · have hbig : ¬ xn < (ms.length : Int) := by omega
    have hpos : 0 ≤ xn := by omega
    clear hr
    go_wp2_with fail
    refine CA.out.mono ?_
    rintro e w6 ⟨rfl, P6, t6⟩
    have X6 := XA.out.kept t6 hzn
    have c1 := X6.c1
    clear CA t6 X6
    go_wp2_with fail
    have HT := Lib.hid P6.height
    clear XA
    go_wp2_with fail
    refine HT.out.mono ?_
    rintro e w8 ⟨rfl, P8, t8⟩
    have RM := Lib.hid P8.room
    clear HT t8
    go_wp2_with fail
    refine RM.out.mono ?_
    rintro e w9 ⟨rfl, P9, t9⟩
    clear RM P8 t9
    go_wp2_with fail
    exact ⟨WI.intro rfl ⟨j + 1, ms, _, _, rfl, by go_num, by omega, P9, rfl, rfl, rfl, rfl, rfl⟩, by simp [Wmu, intOf]; omega⟩
end Go.Proofs.Ytmjnoboeffajbaa
