/- StackPlays: a word popped, or none there. -/
import Derived.Test.YtmjnoboeffajbaaPg
namespace Go.Proofs.Ytmjnoboeffajbaa
open Go.RowKit Go.Maps
set_option linter.unusedSimpArgs false
set_option linter.unusedVariables false

set_option maxRecDepth 1000000 in
set_option maxHeartbeats 4000000 in
theorem case_popE {w : World} {n q p : Nat} {A0 : Ar} {R : Rp} {wr : World} {u : Nat → Value} {j : Nat} {ms : List Nat} {a : Option Addr} {cap g o len0 cap0 : Nat} {kind xn xk : Int} {la : Option Addr} {ll lc : Nat} {zs : List Int}
    (H : Rnd w n q p A0 R wr u j ms a cap g o len0 cap0 kind xn xk la ll lc zs) {K0 : Act → World → Prop} (h50 : ¬ 50 < ll) (hk : kind % 6 = 1) (h0 : ms.length = 0) :
    Code.wp Try.prog body15 (POut w n q p A0 R j g o len0 cap0 K0) (frame15 u) wr := by
  obtain ⟨u1, u2, u7, u9, u10, u11, u12, hj, l60, d0, d1, d2, d3, X, PX, row, hkr, hnr, hkr2, hzn, hml, hn1, hn2⟩ := H
  conv => arg 2; whnf
  simp only [frame15, u1, u2, u7, u9, u10, u11, u12]
  clear u1 u2 u7 u9 u10 u11 u12
  have XA := Lib.hid X
  have ROW := Lib.hid row
  have ew : IntKind.i64.wrap ((n : Int) - (ms.length : Int)) = (n : Int) - (ms.length : Int) := IntWalk.i64_in _ (by omega)
  clear X row
  obtain rfl : ms = [] := List.eq_nil_of_length_eq_zero h0
  have CA := Lib.hid PX.popE
  clear PX
  go_wp2_with fail
  refine CA.out.mono ?_
  rintro e w6 ⟨rfl, P6, t6⟩
  have P7 := P6.fresh (Touch.alloc _ _ (.cells #[.int .u64 0] 47))
  clear CA t6
  go_wp2_with fail
  have HT := Lib.hid P7.height
  clear XA
  go_wp2_with fail
  refine HT.out.mono ?_
  rintro e w8 ⟨rfl, P8, t8⟩
  have RM := Lib.hid P8.room
  clear HT t8
  go_wp2_with fail
  refine RM.out.mono ?_
  rintro e w9 ⟨rfl, P9, t9⟩
  clear RM P8 t9
  go_wp2_with fail
  exact ⟨WI.intro rfl ⟨j + 1, [], _, _, rfl, by go_num, by omega, P9, rfl, rfl, rfl, rfl, rfl⟩, by simp [Wmu, intOf]; omega⟩

set_option maxRecDepth 1000000 in
set_option maxHeartbeats 4000000 in
theorem case_pop {w : World} {n q p : Nat} {A0 : Ar} {R : Rp} {wr : World} {u : Nat → Value} {j : Nat} {ms : List Nat} {a : Option Addr} {cap g o len0 cap0 : Nat} {kind xn xk : Int} {la : Option Addr} {ll lc : Nat} {zs : List Int}
    (H : Rnd w n q p A0 R wr u j ms a cap g o len0 cap0 kind xn xk la ll lc zs) {K0 : Act → World → Prop} (h50 : ¬ 50 < ll) (hk : kind % 6 = 1) (h0 : ¬ ms.length = 0) :
    Code.wp Try.prog body15 (POut w n q p A0 R j g o len0 cap0 K0) (frame15 u) wr := by
  obtain ⟨u1, u2, u7, u9, u10, u11, u12, hj, l60, d0, d1, d2, d3, X, PX, row, hkr, hnr, hkr2, hzn, hml, hn1, hn2⟩ := H
  conv => arg 2; whnf
  simp only [frame15, u1, u2, u7, u9, u10, u11, u12]
  clear u1 u2 u7 u9 u10 u11 u12
  have XA := Lib.hid X
  have ROW := Lib.hid row
  have ew : IntKind.i64.wrap ((n : Int) - (ms.length : Int)) = (n : Int) - (ms.length : Int) := IntWalk.i64_in _ (by omega)
  clear X row
  rcases PX.row.form with ⟨_, _, hf⟩ | ⟨gm, rfl, hcap, _⟩
  · rw [hf] at h0; exact absurd rfl h0
  have hpos : 0 < ms.length := by omega
  have CA := Lib.hid (PX.pop (m' := ms.take (ms.length - 1)) (ms.getD (ms.length - 1) 0) (split_last hpos))
  obtain ⟨v, hv⟩ : ∃ v, v = ms.getD (ms.length - 1) 0 := ⟨_, rfl⟩
  rw [← hv] at CA
  have HV := Lib.hid hv
  clear PX hv
  have e2 : IntKind.i64.wrap ((ms.length : Int) - 1) = ((ms.length - 1 : Nat) : Int) := by rw [IntWalk.i64_in _ (by omega)]; omega
  go_wp2_with fail
  refine CA.out.mono ?_
  rintro e w6 ⟨rfl, P6, t6⟩
  have P7 := P6.fresh (Touch.alloc _ _ (.cells #[.int .u64 v] 47))
  have G7 : (w6.alloc (.cells #[.int .u64 v] 47)).cell? ⟨w6.heap.size, 0, Option.none⟩ = some (.int .u64 v) := cell_of_row _ _ 0 _ _ _ (MapKept.heap_alloc w6 _).1
  clear CA t6 P6
  go_wp2_with fail
  go_loopw [20] (fun kv wl => ∃ i : Nat, kv = .int .i64 i ∧ i ≤ 1 ∧ Touch (fun _ => False) (w6.alloc (.cells #[.int .u64 v] 47)) wl) (fun kv _ => 1 - (intOf kv).toNat)
  case atStart => exact ⟨0, rfl, Nat.zero_le _, Touch.refl _ _⟩
  case round =>
    obtain ⟨i, rfl, hi, tl⟩ := hrel
    have P8 := P7.fresh tl
    have G8 := tl.cell G7 (fun h => h)
    by_cases hik : i < 1
    · obtain rfl : i = 0 := by omega
      have M8 := P8.row.cell (i := ms.length - 1) (by omega)
      rw [← HV.out] at M8
      have e3 : IntKind.i64.wrap ((ms.length - 1 : Nat) : Int) = ((ms.length - 1 : Nat) : Int) := IntWalk.i64_in _ (by omega)
      have l1 : ms.length - 1 < ms.length := by omega
      clear P7 P8 G7
      go_wp2_with fail
      go_quiet (fail)
      go_wp2_with fail
      go_roundw
      case rel => exact ⟨1, rfl, by omega, tl.trans (Touch.drewN _ _ _)⟩
      case measure => simp [intOf]
    · obtain rfl : i = 1 := by omega
      have SR := P8.row.part (ms.length - 1) (by omega) cap
      obtain ⟨a2, c2, w9, hap, b9⟩ := uapp (UBld.lit (Touch.refl (fun _ => False) wr)) SR (by simp; omega)
      obtain ⟨mt, hmt⟩ : ∃ mt, mt = ms.take (ms.length - 1) := ⟨_, rfl⟩
      have lt : mt.length = ms.length - 1 := by rw [hmt]; simp
      rw [← hmt] at hap b9 P8
      have P9 := P8.built b9 (by simp)
      rw [List.nil_append] at P9
      have HAP := Lib.hid hap
      have l1 : ms.length - 1 ≤ cap := by omega
      clear P7 P8 G7 G8 tl SR hap b9 hmt
      have HT := Lib.hid P9.height
      clear XA
      go_wp2_with (at_builtin; refine wpList_append_run rfl _ _ 52 52 rfl rfl rfl HAP.out ?_)
      refine HT.out.mono ?_
      rintro e w8 ⟨rfl, P8, t8⟩
      have RM := Lib.hid P8.room
      clear HT t8
      go_wp2_with fail
      refine RM.out.mono ?_
      rintro e w9 ⟨rfl, P9, t9⟩
      clear RM P8 t9
      go_wp2_with fail
      exact ⟨WI.intro rfl ⟨j + 1, mt, _, _, by rw [lt]; rfl, by go_num, by omega, P9, rfl, rfl, rfl, rfl, rfl⟩, by simp [Wmu, intOf]; omega⟩
end Go.Proofs.Ytmjnoboeffajbaa
