/- FramePlays: a frame pushed. -/
import Derived.Test.YtmjnoboeffajbaaQd
namespace Go.Proofs.Ytmjnoboeffajbaa
open Go.RowKit Go.Maps
set_option linter.unusedSimpArgs false
set_option linter.unusedVariables false

set_option maxRecDepth 1000000 in
set_option maxHeartbeats 4000000 in
theorem fcase_full {w : World} {n q p : Nat} {A0 : Ar} {R : Rp} {wr : World} {u : Nat → Value} {j : Nat} {ms : List Fm} {a : Option Addr} {cap g o len0 cap0 : Nat} {kind f l b : Int}
    (H : Fnd w n q p A0 R wr u j ms a cap g o len0 cap0 kind f l b) {K0 : Act → World → Prop} (hk : kind % 6 = 0) (hok : smallN f = true ∧ smallN l = true ∧ smallN b = true) (hful : ms.length = n) :
    Code.wp Try.prog body13 (FOut w n q p A0 R j g o len0 cap0 K0) (frame13 u) wr := by
  obtain ⟨u1, u2, u7, u9, u10, u11, u12, hj, l80, hg, d0, d1, d2, d3, P, hkr, hfr, hn1, hn2⟩ := H
  conv => arg 2; whnf
  simp only [frame13, u1, u2, u7, u9, u10, u11, u12]
  clear u1 u2 u7 u9 u10 u11 u12
  have tX : Touch (fun _ => False) wr (wr.alloc (.cells #[.int .i64 f, .int .i64 l, .int .i64 b] 69)) := Touch.alloc _ _ _
  have PX := P.fresh tX
  have XA := Lib.hid (XFr.new wr f l b)
  have hzn : ¬ (wr.heap.size = q ∨ wr.heap.size = R.buf) := by
    have := P.ltq
    have := P.ltb
    omega
  have hml := P.le
  have hlg : g < wr.heap.size := Nat.lt_of_lt_of_le hg P.bel.size
  have e0 : (wr.alloc (.cells #[.int .i64 f, .int .i64 l, .int .i64 b] 69)).cell? ⟨g, o + j * 4, Option.none⟩ = some (.int .u8 kind) := tX.cell d0 (fun h => h)
  obtain ⟨h0, h1, h2⟩ := hok
  have r0 := (smallN_iff f).1 h0
  have r1 := (smallN_iff l).1 h1
  have r2 := (smallN_iff b).1 h2
  obtain ⟨f, rfl⟩ := Int.eq_ofNat_of_zero_le r0.1
  obtain ⟨l, rfl⟩ := Int.eq_ofNat_of_zero_le r1.1
  obtain ⟨b, rfl⟩ := Int.eq_ofNat_of_zero_le r2.1
  have hx : (⟨f, l, b⟩ : Fm).ok := ⟨by have := r0.2; show f ≤ _; omega, by have := r1.2; show l ≤ _; omega, by have := r2.2; show b ≤ _; omega⟩
  have S0 := Lib.hid (show ∀ w, Calls Try.prog 48 #[.int .i64 f] w fun e w' => e = .returned (.bool true) ∧ w = w' from fun w => by rw [← h0]; exact lsmall_any f w)
  have S1 := Lib.hid (show ∀ w, Calls Try.prog 48 #[.int .i64 l] w fun e w' => e = .returned (.bool true) ∧ w = w' from fun w => by rw [← h1]; exact lsmall_any l w)
  have S2 := Lib.hid (show ∀ w, Calls Try.prog 48 #[.int .i64 b] w fun e w' => e = .returned (.bool true) ∧ w = w' from fun w => by rw [← h2]; exact lsmall_any b w)
  have CA := Lib.hid (PX.pushFull ⟨f, l, b⟩ hx hful)
  clear P PX tX r0 r1 r2 h0 h1 h2 hx
  go_wp2_with fail
  refine CA.out.mono ?_
  rintro e w6 ⟨rfl, P6, t6⟩
  have X6 := XA.out.kept t6 hzn
  have c0 := X6.c0
  have c1 := X6.c1
  have c2 := X6.c2
  clear CA t6 X6
  go_wp2_with fail
  refine (S0.out _).mono ?_
  rintro e w7 ⟨rfl, rfl⟩
  go_wp2_with fail
  refine (S1.out _).mono ?_
  rintro e w7 ⟨rfl, rfl⟩
  go_wp2_with fail
  refine (S2.out _).mono ?_
  rintro e w7 ⟨rfl, rfl⟩
  go_wp2_with fail
  have HT := Lib.hid P6.depth
  clear XA
  go_wp2_with fail
  refine HT.out.mono ?_
  rintro e w8 ⟨rfl, P8, t8⟩
  clear HT t8
  go_wp2_with fail
  exact ⟨WF.intro rfl ⟨j + 1, ms, _, _, by rw [hful]; rfl, by go_num, by omega, P8, rfl, rfl, rfl, rfl, rfl⟩, by simp [Fmu, intOf]; omega⟩

set_option maxRecDepth 1000000 in
set_option maxHeartbeats 4000000 in
theorem fcase_push {w : World} {n q p : Nat} {A0 : Ar} {R : Rp} {wr : World} {u : Nat → Value} {j : Nat} {ms : List Fm} {a : Option Addr} {cap g o len0 cap0 : Nat} {kind f l b : Int}
    (H : Fnd w n q p A0 R wr u j ms a cap g o len0 cap0 kind f l b) {K0 : Act → World → Prop} (hk : kind % 6 = 0) (hok : smallN f = true ∧ smallN l = true ∧ smallN b = true) (hful : ¬ ms.length = n) :
    Code.wp Try.prog body13 (FOut w n q p A0 R j g o len0 cap0 K0) (frame13 u) wr := by
  obtain ⟨u1, u2, u7, u9, u10, u11, u12, hj, l80, hg, d0, d1, d2, d3, P, hkr, hfr, hn1, hn2⟩ := H
  conv => arg 2; whnf
  simp only [frame13, u1, u2, u7, u9, u10, u11, u12]
  clear u1 u2 u7 u9 u10 u11 u12
  have tX : Touch (fun _ => False) wr (wr.alloc (.cells #[.int .i64 f, .int .i64 l, .int .i64 b] 69)) := Touch.alloc _ _ _
  have PX := P.fresh tX
  have XA := Lib.hid (XFr.new wr f l b)
  have hzn : ¬ (wr.heap.size = q ∨ wr.heap.size = R.buf) := by
    have := P.ltq
    have := P.ltb
    omega
  have hml := P.le
  have hlg : g < wr.heap.size := Nat.lt_of_lt_of_le hg P.bel.size
  have e0 : (wr.alloc (.cells #[.int .i64 f, .int .i64 l, .int .i64 b] 69)).cell? ⟨g, o + j * 4, Option.none⟩ = some (.int .u8 kind) := tX.cell d0 (fun h => h)
  obtain ⟨h0, h1, h2⟩ := hok
  have r0 := (smallN_iff f).1 h0
  have r1 := (smallN_iff l).1 h1
  have r2 := (smallN_iff b).1 h2
  obtain ⟨f, rfl⟩ := Int.eq_ofNat_of_zero_le r0.1
  obtain ⟨l, rfl⟩ := Int.eq_ofNat_of_zero_le r1.1
  obtain ⟨b, rfl⟩ := Int.eq_ofNat_of_zero_le r2.1
  have hx : (⟨f, l, b⟩ : Fm).ok := ⟨by have := r0.2; show f ≤ _; omega, by have := r1.2; show l ≤ _; omega, by have := r2.2; show b ≤ _; omega⟩
  have S0 := Lib.hid (show ∀ w, Calls Try.prog 48 #[.int .i64 f] w fun e w' => e = .returned (.bool true) ∧ w = w' from fun w => by rw [← h0]; exact lsmall_any f w)
  have S1 := Lib.hid (show ∀ w, Calls Try.prog 48 #[.int .i64 l] w fun e w' => e = .returned (.bool true) ∧ w = w' from fun w => by rw [← h1]; exact lsmall_any l w)
  have S2 := Lib.hid (show ∀ w, Calls Try.prog 48 #[.int .i64 b] w fun e w' => e = .returned (.bool true) ∧ w = w' from fun w => by rw [← h2]; exact lsmall_any b w)
  have CA := Lib.hid (PX.push ⟨f, l, b⟩ hx (by omega))
  have e1 : ¬ (ms.length : Int) = (n : Int) := by omega
  have hm3 := Lib.hid hml
  clear P PX tX r0 r1 r2 h0 h1 h2 hx
  go_wp2_with fail
  refine CA.out.mono ?_
  rintro e w6 ⟨rfl, P6, t6⟩
  have X6 := XA.out.kept t6 hzn
  have c0 := X6.c0
  have c1 := X6.c1
  have c2 := X6.c2
  obtain ⟨a2, cp2, w9, hap, r9, t9⟩ := P6.row.app P6.bel.size P6.ltf (by omega) ⟨f, l, b⟩ #[.int .i64 f, .int .i64 l, .int .i64 b] rfl
  have P9 := P6.rowed r9 t9
  have HAP := Lib.hid hap
  clear CA t6 X6 P6 r9 t9 hap
  go_wp2_with fail
  refine (S0.out _).mono ?_
  rintro e w7 ⟨rfl, rfl⟩
  go_wp2_with fail
  refine (S1.out _).mono ?_
  rintro e w7 ⟨rfl, rfl⟩
  go_wp2_with fail
  refine (S2.out _).mono ?_
  rintro e w7 ⟨rfl, rfl⟩
  have HT := Lib.hid P9.depth
  clear XA
  go_wp2_with (at_builtin; refine wpList_append_run rfl _ _ 81 81 rfl rfl rfl HAP.out ?_)
  refine HT.out.mono ?_
  rintro e w8 ⟨rfl, P8, t8⟩
  clear HT t8
  go_wp2_with fail
  exact ⟨WF.intro rfl ⟨j + 1, ms ++ [⟨f, l, b⟩], _, _, by simp, by go_num, by omega, P8, rfl, rfl, rfl, rfl, rfl⟩, by simp [Fmu, intOf]; omega⟩
end Go.Proofs.Ytmjnoboeffajbaa
