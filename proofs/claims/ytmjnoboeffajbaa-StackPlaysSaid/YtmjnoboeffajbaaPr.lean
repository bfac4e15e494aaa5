/- StackPlays: nothing unwound of none. -/
import Derived.Test.YtmjnoboeffajbaaPg
namespace Go.Proofs.Ytmjnoboeffajbaa
open Go.RowKit Go.Maps
set_option linter.unusedSimpArgs false
set_option linter.unusedVariables false

set_option maxRecDepth 1000000 in
set_option maxHeartbeats 4000000 in
theorem case_unwindNone {w : World} {n q p : Nat} {A0 : Ar} {R : Rp} {wr : World} {u : Nat → Value} {j : Nat} {ms : List Nat} {a : Option Addr} {cap g o len0 cap0 : Nat} {kind xn xk : Int} {la : Option Addr} {ll lc : Nat} {zs : List Int}
    (H : Rnd w n q p A0 R wr u j ms a cap g o len0 cap0 kind xn xk la ll lc zs) {K0 : Act → World → Prop} (h50 : ¬ 50 < ll) (hk : kind % 6 = 5) (hr0 : 0 ≤ xn) (hr1 : 0 ≤ xk) (hr2 : xk ≤ (ms.length : Int)) (hr3 : xn ≤ (ms.length : Int) - xk) (ha : a = Option.none) :
    Code.wp Try.prog body15 (POut w n q p A0 R j g o len0 cap0 K0) (frame15 u) wr := by
  obtain ⟨u1, u2, u7, u9, u10, u11, u12, hj, l60, d0, d1, d2, d3, X, PX, row, hkr, hnr, hkr2, hzn, hml, hn1, hn2⟩ := H
  conv => arg 2; whnf
  simp only [frame15, u1, u2, u7, u9, u10, u11, u12]
  clear u1 u2 u7 u9 u10 u11 u12
  have XA := Lib.hid X
  have ROW := Lib.hid row
  have ew : IntKind.i64.wrap ((n : Int) - (ms.length : Int)) = (n : Int) - (ms.length : Int) := IntWalk.i64_in _ (by omega)
  clear X row
  subst ha
  rcases PX.row.form with ⟨_, rfl, rfl⟩ | ⟨gm, h, _⟩
  rotate_left
  · cases h
  have hz : xn = 0 ∧ xk = 0 := by simp at hr2 hr3; omega
  obtain ⟨rfl, rfl⟩ := hz
  have ez : IntKind.i64.wrap 0 = 0 := by decide
  have CA0 := PX.unwind 0 0 (Nat.zero_le _) (Nat.zero_le _)
  rw [show ((0 : Nat) : Int) = 0 from rfl] at CA0
  have CA := Lib.hid CA0
  clear PX CA0
  go_wp2_with fail
  refine CA.out.mono ?_
  rintro e w6 ⟨rfl, P6, t6⟩
  have X6 := XA.out.kept t6 hzn
  have c1 := X6.c1
  have c2 := X6.c2
  have tA := ((Touch.alloc (fun _ => False) w6 (.cells #[] 47)).trans (Touch.drew _ _))
  have tB := ((Touch.drew (fun _ => False) w6).trans (Touch.alloc _ _ (.cells #[] 47)))
  have tC := (Touch.drew (fun _ => False) w6)
  have c1a := (X6.kept tA (fun h => h)).c1
  have c1b := (X6.kept tB (fun h => h)).c1
  have c1c := (X6.kept tC (fun h => h)).c1
  have c2a := (X6.kept tA (fun h => h)).c2
  have c2b := (X6.kept tB (fun h => h)).c2
  have c2c := (X6.kept tC (fun h => h)).c2
  have PP := Lib.hid P6
  have X7 := Lib.hid X6
  clear CA t6 P6 X6 tA tB tC
  go_wp2_with fail
  go_region_law (first
    | (refine step_append_u (w := w6) (av := some ⟨w6.heap.size, 0, Option.none⟩) (i := 0) (cap := 0) (l := []) (L := []) (v := .slice Option.none 0 0) (by rfl) (.tmp 135) (.tmp 139) (by rfl) (by rfl) (by simp [Act.eval, Act.put]) (by simp [Act.eval, Act.put]) (by first | exact (UBld.lit (Touch.refl _ _)).drew | exact UBld.lit (Touch.drew _ _)) (.inl ⟨rfl, rfl⟩) (by simp) ?_
       intro a1 c1 w7 b1
       have c17 := (X7.out.kept b1.t (fun h => h)).c1
       have c27 := (X7.out.kept b1.t (fun h => h)).c2)
    | (refine step_append_u (w := w6) (av := a1) (i := 0) (cap := c1) (l := []) (L := []) (v := .slice Option.none 0 0) (by rfl) (.tmp 140) (.tmp 147) (by rfl) (by rfl) (by simp [Act.eval, Act.put]) (by simp [Act.eval, Act.put]) b1 (.inl ⟨rfl, rfl⟩) (by simp) ?_
       intro a2 c2 w7 b2))
  all_goals
    have P7 := PP.out.built b2 (by simp)
    clear b2 PP X7 c1a c1b c1c c2a c2b c2c
    have HT := Lib.hid P7.height
    clear XA
    go_wp2_with fail
    refine HT.out.mono ?_
    rintro e w8 ⟨rfl, P8, t8⟩
    have RM := Lib.hid P8.room
    clear HT t8
    go_wp2_with fail
    refine RM.out.mono ?_
    rintro e w9 ⟨rfl, P9, t9⟩
    clear RM P8 t9
    go_wp2_with fail
    exact ⟨WI.intro rfl ⟨j + 1, [], _, _, by simp, by go_num, by omega, P9, rfl, rfl, rfl, rfl, rfl⟩, by simp [Wmu, intOf]; omega⟩
end Go.Proofs.Ytmjnoboeffajbaa
