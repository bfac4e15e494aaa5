/- StackPlays: words pushed. -/
import Derived.Test.YtmjnoboeffajbaaPg
namespace Go.Proofs.Ytmjnoboeffajbaa
open Go.RowKit Go.Maps
set_option linter.unusedSimpArgs false
set_option linter.unusedVariables false

set_option maxRecDepth 1000000 in
set_option maxHeartbeats 4000000 in
theorem case_push {w : World} {n q p : Nat} {A0 : Ar} {R : Rp} {wr : World} {u : Nat → Value} {j : Nat} {ms : List Nat} {a : Option Addr} {cap g o len0 cap0 : Nat} {kind xn xk : Int} {la : Option Addr} {ll lc : Nat} {zs : List Int}
    (H : Rnd w n q p A0 R wr u j ms a cap g o len0 cap0 kind xn xk la ll lc zs) {K0 : Act → World → Prop} (h50 : ¬ 50 < ll) (hk : kind % 6 = 0) (hdeep : ¬ n < ms.length + ll) :
    Code.wp Try.prog body15 (POut w n q p A0 R j g o len0 cap0 K0) (frame15 u) wr := by
  obtain ⟨u1, u2, u7, u9, u10, u11, u12, hj, l60, d0, d1, d2, d3, X, PX, row, hkr, hnr, hkr2, hzn, hml, hn1, hn2⟩ := H
  conv => arg 2; whnf
  simp only [frame15, u1, u2, u7, u9, u10, u11, u12]
  clear u1 u2 u7 u9 u10 u11 u12
  have XA := Lib.hid X
  have ROW := Lib.hid row
  have ew : IntKind.i64.wrap ((n : Int) - (ms.length : Int)) = (n : Int) - (ms.length : Int) := IntWalk.i64_in _ (by omega)
  clear X row
  obtain ⟨L, hL⟩ : ∃ L, L = wrds zs ll := ⟨_, rfl⟩
  obtain rfl : ll = L.length := by rw [hL, wrds_length]
  have PS := ROW.out.psrc (F := fun k => k = q ∨ k = R.buf) PX.bel (by
    rintro k (rfl | rfl)
    · exact PX.hq
    · exact PX.F _ (.inr (.inl rfl)))
  rw [← hL] at PS
  have US := Lib.hid (fun (w9 : World) (b9 : Below w.heap.size w w9) => ROW.out.usrc b9)
  rw [← hL] at US
  have CA := Lib.hid (PX.push L (by omega) L.length rfl la lc PS)
  have e1 : ¬ (n : Int) - (ms.length : Int) < (L.length : Int) := by omega
  have hms := Lib.hid PX.le
  clear PX hL PS
  go_wp2_with fail
  refine CA.out.mono ?_
  rintro e w6 ⟨rfl, P6, t6⟩
  have X6 := XA.out.kept t6 hzn
  have c3 := X6.c3
  have c3a := (X6.kept ((Touch.alloc (fun _ => False) w6 (.cells #[] 47)).trans (Touch.drew _ _)) (fun h => h)).c3
  have c3b := (X6.kept ((Touch.drew (fun _ => False) w6).trans (Touch.alloc _ _ (.cells #[] 47))) (fun h => h)).c3
  have c3c := (X6.kept (Touch.drew (fun _ => False) w6) (fun h => h)).c3
  have S1 := Lib.hid P6.row.src
  have S2 := Lib.hid (US.out _ P6.bel)
  have PP := Lib.hid P6
  have X7 := Lib.hid X6
  clear CA t6 P6 X6 US
  go_wp2_with fail
  go_region_law (first
    | (refine step_append_u (w := w6) (av := some ⟨w6.heap.size, 0, Option.none⟩) (i := 0) (cap := 0) (l := []) (L := ms) (v := .slice a ms.length cap) (by rfl) (.tmp 167) (.tmp 168) (by rfl) (by rfl) (by simp [Act.eval, Act.put]) (by simp [Act.eval, Act.put]) (by first | exact (UBld.lit (Touch.refl _ _)).drew | exact UBld.lit (Touch.drew _ _)) S1.out (by have := hms.out; omega) ?_
       intro a1 c1 w7 b1
       have c37 := (X7.out.kept b1.t (fun h => h)).c3)
    | (refine step_append_u (w := w6) (av := a1) (i := 0 + ms.length) (cap := c1) (l := [] ++ ms) (L := L) (v := .slice la L.length lc) (by rfl) (.tmp 169) (.tmp 171) (by rfl) (by rfl) (by simp [Act.eval, Act.put]) (by simp [Act.eval, Act.put]) b1 S2.out (by have := hms.out; omega) ?_
       intro a2 c2 w7 b2))
  all_goals
    have P7 := PP.out.built b2 (by simp)
    rw [List.nil_append] at P7
    clear b2 S1 S2 PP X7 c3 c3a c3b c3c
    have HT := Lib.hid P7.height
    clear XA
    go_wp2_with fail
    refine HT.out.mono ?_
    rintro e w8 ⟨rfl, P8, t8⟩
    have RM := Lib.hid P8.room
    clear HT t8
    go_wp2_with fail
    refine RM.out.mono ?_
    rintro e w9 ⟨rfl, P9, t9⟩
    clear RM P8 t9
    go_wp2_with fail
    exact ⟨WI.intro rfl ⟨j + 1, ms ++ L, _, _, by simp, by go_num, by omega, P9, rfl, rfl, rfl, rfl, rfl⟩, by simp [Wmu, intOf]; omega⟩
end Go.Proofs.Ytmjnoboeffajbaa
