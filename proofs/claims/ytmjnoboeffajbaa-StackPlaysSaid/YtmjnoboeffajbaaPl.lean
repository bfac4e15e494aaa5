/- StackPlays: words taken. -/
import Derived.Test.YtmjnoboeffajbaaPg
namespace Go.Proofs.Ytmjnoboeffajbaa
open Go.RowKit Go.Maps
set_option linter.unusedSimpArgs false
set_option linter.unusedVariables false

set_option maxRecDepth 1000000 in
set_option maxHeartbeats 4000000 in
theorem case_take {w : World} {n q p : Nat} {A0 : Ar} {R : Rp} {wr : World} {u : Nat → Value} {j : Nat} {ms : List Nat} {a : Option Addr} {cap g o len0 cap0 : Nat} {kind xn xk : Int} {la : Option Addr} {ll lc : Nat} {zs : List Int}
    (H : Rnd w n q p A0 R wr u j ms a cap g o len0 cap0 kind xn xk la ll lc zs) {K0 : Act → World → Prop} (h50 : ¬ 50 < ll) (hk : kind % 6 = 2) (hr0 : 0 ≤ xn) (hr1 : xn ≤ (ms.length : Int)) (hnn : ¬ a = Option.none) :
    Code.wp Try.prog body15 (POut w n q p A0 R j g o len0 cap0 K0) (frame15 u) wr := by
  obtain ⟨u1, u2, u7, u9, u10, u11, u12, hj, l60, d0, d1, d2, d3, X, PX, row, hkr, hnr, hkr2, hzn, hml, hn1, hn2⟩ := H
  conv => arg 2; whnf
  simp only [frame15, u1, u2, u7, u9, u10, u11, u12]
  clear u1 u2 u7 u9 u10 u11 u12
  have XA := Lib.hid X
  have ROW := Lib.hid row
  have ew : IntKind.i64.wrap ((n : Int) - (ms.length : Int)) = (n : Int) - (ms.length : Int) := IntWalk.i64_in _ (by omega)
  clear X row
  obtain ⟨k, rfl⟩ := Int.eq_ofNat_of_zero_le hr0
  rcases PX.row.form with ⟨hf, _, _⟩ | ⟨gm, rfl, hcap, _⟩
  · exact absurd hf hnn
  have hk2 : k ≤ ms.length := by omega
  have CA := Lib.hid (PX.take k hk2)
  clear PX hnn
  have e2 : IntKind.i64.wrap ((ms.length : Int) - (k : Int)) = ((ms.length - k : Nat) : Int) := by rw [IntWalk.i64_in _ (by omega)]; omega
  go_wp2_with fail
  refine CA.out.mono ?_
  rintro e w6 ⟨x, c, rfl, G6, P6, t6⟩
  clear CA t6
  go_wp2_with fail
  go_loopw [20] (fun kv wl => ∃ i : Nat, kv = .int .i64 i ∧ i ≤ k ∧ Touch (fun _ => False) w6 wl) (fun kv _ => k - (intOf kv).toNat)
  case atStart => exact ⟨0, rfl, Nat.zero_le _, Touch.refl _ _⟩
  case round =>
    obtain ⟨i, rfl, hi, tl⟩ := hrel
    have P8 := P6.fresh tl
    by_cases hik : i < k
    · obtain ⟨gg, rfl, hc⟩ := G6 i hik
      have G8 := tl.cell hc (fun h => h)
      have M8 := P8.row.cell (i := ms.length - k + i) (by omega)
      have e3 : IntKind.i64.wrap (((ms.length - k : Nat) : Int) + (i : Int)) = ((ms.length - k + i : Nat) : Int) := by rw [IntWalk.i64_in _ (by omega)]; omega
      have l1 : ms.length - k + i < ms.length := by omega
      generalize ms.getD (ms.length - k + i) 0 = v at G8 M8
      clear P6 P8 G6 hc
      go_wp2_with fail
      go_quiet (fail)
      go_wp2_with fail
      go_roundw
      case rel => exact ⟨i + 1, by go_num, by omega, tl.trans (Touch.drewN _ _ _)⟩
      case measure => simp [intOf]; omega
    · obtain rfl : i = k := by omega
      have SR := P8.row.part (ms.length - i) (by omega) cap
      obtain ⟨a2, c2, w9, hap, b9⟩ := uapp (UBld.lit (Touch.refl (fun _ => False) wr)) SR (by simp; omega)
      obtain ⟨mt, hmt⟩ : ∃ mt, mt = ms.take (ms.length - i) := ⟨_, rfl⟩
      have lt : mt.length = ms.length - i := by rw [hmt]; simp
      rw [← hmt] at hap b9 P8
      have P9 := P8.built b9 (by simp)
      rw [List.nil_append] at P9
      have HAP := Lib.hid hap
      have l1 : ms.length - i ≤ cap := by omega
      clear P6 P8 G6 tl SR hap b9 hmt
      have HT := Lib.hid P9.height
      clear XA
      go_wp2_with (at_builtin; refine wpList_append_run rfl _ _ 52 52 rfl rfl rfl HAP.out ?_)
      refine HT.out.mono ?_
      rintro e w8 ⟨rfl, P8, t8⟩
      have RM := Lib.hid P8.room
      clear HT t8
      go_wp2_with fail
      refine RM.out.mono ?_
      rintro e w9 ⟨rfl, P9, t9⟩
      clear RM P8 t9
      go_wp2_with fail
      exact ⟨WI.intro rfl ⟨j + 1, mt, _, _, by rw [lt]; rfl, by go_num, by omega, P9, rfl, rfl, rfl, rfl, rfl⟩, by simp [Wmu, intOf]; omega⟩
end Go.Proofs.Ytmjnoboeffajbaa
