/- StackPlays: unwound. -/
import Derived.Test.YtmjnoboeffajbaaPg
namespace Go.Proofs.Ytmjnoboeffajbaa
open Go.RowKit Go.Maps
set_option linter.unusedSimpArgs false
set_option linter.unusedVariables false

set_option maxRecDepth 1000000 in
set_option maxHeartbeats 4000000 in
theorem case_unwind {w : World} {n q p : Nat} {A0 : Ar} {R : Rp} {wr : World} {u : Nat → Value} {j : Nat} {ms : List Nat} {a : Option Addr} {cap g o len0 cap0 : Nat} {kind xn xk : Int} {la : Option Addr} {ll lc : Nat} {zs : List Int}
    (H : Rnd w n q p A0 R wr u j ms a cap g o len0 cap0 kind xn xk la ll lc zs) {K0 : Act → World → Prop} (h50 : ¬ 50 < ll) (hk : kind % 6 = 5) (hr0 : 0 ≤ xn) (hr1 : 0 ≤ xk) (hr2 : xk ≤ (ms.length : Int)) (hr3 : xn ≤ (ms.length : Int) - xk) (hnn : ¬ a = Option.none) :
    Code.wp Try.prog body15 (POut w n q p A0 R j g o len0 cap0 K0) (frame15 u) wr := by
  obtain ⟨u1, u2, u7, u9, u10, u11, u12, hj, l60, d0, d1, d2, d3, X, PX, row, hkr, hnr, hkr2, hzn, hml, hn1, hn2⟩ := H
  conv => arg 2; whnf
  simp only [frame15, u1, u2, u7, u9, u10, u11, u12]
  clear u1 u2 u7 u9 u10 u11 u12
  have XA := Lib.hid X
  have ROW := Lib.hid row
  have ew : IntKind.i64.wrap ((n : Int) - (ms.length : Int)) = (n : Int) - (ms.length : Int) := IntWalk.i64_in _ (by omega)
  clear X row
  obtain ⟨kp, rfl⟩ := Int.eq_ofNat_of_zero_le hr0
  obtain ⟨ht, rfl⟩ := Int.eq_ofNat_of_zero_le hr1
  rcases PX.row.form with ⟨hf, _, _⟩ | ⟨gm, rfl, hcap, _⟩
  · exact absurd hf hnn
  have hh1 : ht ≤ ms.length := by omega
  have hh2 : kp ≤ ms.length - ht := by omega
  have hlen2 : ms.length - (ms.length - kp) = kp := by omega
  obtain ⟨OFF, hOFF⟩ : ∃ o, o = if cap = ms.length - kp then 0 else ms.length - kp := ⟨_, rfl⟩
  have hoff : (if cap = ms.length - kp then some ⟨gm, 0, Option.none⟩ else some ⟨gm, ms.length - kp, Option.none⟩ : Option Addr) = some ⟨gm, OFF, Option.none⟩ := by rw [hOFF]; split <;> rfl
  have hOF2 : OFF = ms.length - kp ∨ kp = 0 := by rw [hOFF]; split <;> omega
  clear hOFF
  have CA := Lib.hid (PX.unwind kp ht hh1 hh2)
  have e4 : IntKind.i64.wrap ((ms.length : Int) - (ht : Int)) = ((ms.length - ht : Nat) : Int) := by rw [IntWalk.i64_in _ (by omega)]; omega
  have e5 : IntKind.i64.wrap ((ms.length : Int) - (kp : Int)) = ((ms.length - kp : Nat) : Int) := by rw [IntWalk.i64_in _ (by omega)]; omega
  clear PX
  go_wp2_with fail
  refine CA.out.mono ?_
  rintro e w6 ⟨rfl, P6, t6⟩
  have X6 := XA.out.kept t6 hzn
  have c1 := X6.c1
  have c2 := X6.c2
  have tA := ((Touch.alloc (fun _ => False) w6 (.cells #[] 47)).trans (Touch.drew _ _))
  have tB := ((Touch.drew (fun _ => False) w6).trans (Touch.alloc _ _ (.cells #[] 47)))
  have tC := (Touch.drew (fun _ => False) w6)
  have c1a := (X6.kept tA (fun h => h)).c1
  have c1b := (X6.kept tB (fun h => h)).c1
  have c1c := (X6.kept tC (fun h => h)).c1
  have c2a := (X6.kept tA (fun h => h)).c2
  have c2b := (X6.kept tB (fun h => h)).c2
  have c2c := (X6.kept tC (fun h => h)).c2
  have S1 : Hid (USrc w6 (.slice (some ⟨gm, 0, Option.none⟩) ht cap) (ms.take ht)) := Lib.hid (P6.row.part ht hh1 cap)
  have S2 : Hid (USrc w6 (.slice (some ⟨gm, OFF, Option.none⟩) kp (cap - (ms.length - kp))) (ms.drop (ms.length - kp))) := Lib.hid (P6.row.rest (ms.length - kp) kp (by omega) (by omega) _ OFF hOF2)
  have PP := Lib.hid P6
  have X7 := Lib.hid X6
  obtain ⟨L1, hL1⟩ : ∃ L, L = ms.take ht := ⟨_, rfl⟩
  obtain ⟨L2, hL2⟩ : ∃ L, L = ms.drop (ms.length - kp) := ⟨_, rfl⟩
  have l1 : L1.length = ht := by rw [hL1]; simp; omega
  have l2 : L2.length = kp := by rw [hL2]; simp; omega
  rw [← hL1] at S1 PP
  rw [← hL2] at S2 PP
  have LL := Lib.hid (And.intro l1 l2)
  have hb : L1.length + L2.length ≤ n := by omega
  have hc1 : ht ≤ cap := by omega
  have hc2 : ms.length - kp ≤ cap := by omega
  have hc3 : ms.length - kp ≤ ms.length := by omega
  clear CA t6 P6 X6 hL1 hL2 l1 l2 tA tB tC
  go_wp2_with fail
  go_region_law (first
    | (refine step_append_u (w := w6) (av := some ⟨w6.heap.size, 0, Option.none⟩) (i := 0) (cap := 0) (l := []) (L := L1) (v := (.slice (some ⟨gm, 0, Option.none⟩) ht cap)) (by rfl) (.tmp 135) (.tmp 139) (by rfl) (by rfl) (by simp [Act.eval, Act.put]) (by simp [Act.eval, Act.put]) (by first | exact (UBld.lit (Touch.refl _ _)).drew | exact UBld.lit (Touch.drew _ _)) S1.out (by have := LL.out.1; omega) ?_
       intro a1 c1 w7 b1
       have c17 := (X7.out.kept b1.t (fun h => h)).c1
       have c27 := (X7.out.kept b1.t (fun h => h)).c2)
    | (refine step_append_u (w := w6) (av := a1) (i := 0 + L1.length) (cap := c1) (l := [] ++ L1) (L := L2) (v := (.slice (some ⟨gm, OFF, Option.none⟩) kp (cap - (ms.length - kp)))) (by rfl) (.tmp 140) (.tmp 147) (by rfl) (by rfl) (by simp [Act.eval, Act.put]) (by simp [Act.eval, Act.put, hlen2]) b1 S2.out (by have := LL.out; omega) ?_
       intro a2 c2 w7 b2))
  all_goals
    have P7 := PP.out.built b2 (by simp)
    rw [List.nil_append] at P7
    clear b2 S1 S2 PP X7 c1a c1b c1c c2a c2b c2c
    have HT := Lib.hid P7.height
    clear XA
    go_wp2_with fail
    refine HT.out.mono ?_
    rintro e w8 ⟨rfl, P8, t8⟩
    have RM := Lib.hid P8.room
    clear HT t8
    go_wp2_with fail
    refine RM.out.mono ?_
    rintro e w9 ⟨rfl, P9, t9⟩
    clear RM P8 t9
    go_wp2_with fail
    exact ⟨WI.intro rfl ⟨j + 1, L1 ++ L2, _, _, by simp, by go_num, by omega, P9, rfl, rfl, rfl, rfl, rfl⟩, by simp [Wmu, intOf]; omega⟩
end Go.Proofs.Ytmjnoboeffajbaa
