/- FramePlays: no frame pushed. -/
import Derived.Test.YtmjnoboeffajbaaQd
namespace Go.Proofs.Ytmjnoboeffajbaa
open Go.RowKit Go.Maps
set_option linter.unusedSimpArgs false
set_option linter.unusedVariables false

set_option maxRecDepth 1000000 in
set_option maxHeartbeats 4000000 in
theorem fcase_bad0 {w : World} {n q p : Nat} {A0 : Ar} {R : Rp} {wr : World} {u : Nat → Value} {j : Nat} {ms : List Fm} {a : Option Addr} {cap g o len0 cap0 : Nat} {kind f l b : Int}
    (H : Fnd w n q p A0 R wr u j ms a cap g o len0 cap0 kind f l b) {K0 : Act → World → Prop} (hk : kind % 6 = 0) (hbad : okI f l b = false) (h0 : smallN f = false) :
    Code.wp Try.prog body13 (FOut w n q p A0 R j g o len0 cap0 K0) (frame13 u) wr := by
  obtain ⟨u1, u2, u7, u9, u10, u11, u12, hj, l80, hg, d0, d1, d2, d3, P, hkr, hfr, hn1, hn2⟩ := H
  conv => arg 2; whnf
  simp only [frame13, u1, u2, u7, u9, u10, u11, u12]
  clear u1 u2 u7 u9 u10 u11 u12
  have tX : Touch (fun _ => False) wr (wr.alloc (.cells #[.int .i64 f, .int .i64 l, .int .i64 b] 69)) := Touch.alloc _ _ _
  have PX := P.fresh tX
  have XA := Lib.hid (XFr.new wr f l b)
  have hzn : ¬ (wr.heap.size = q ∨ wr.heap.size = R.buf) := by
    have := P.ltq
    have := P.ltb
    omega
  have hml := P.le
  have hlg : g < wr.heap.size := Nat.lt_of_lt_of_le hg P.bel.size
  have e0 : (wr.alloc (.cells #[.int .i64 f, .int .i64 l, .int .i64 b] 69)).cell? ⟨g, o + j * 4, Option.none⟩ = some (.int .u8 kind) := tX.cell d0 (fun h => h)
  have CA := Lib.hid (PX.pushArg f l b hbad)
  have S0 := Lib.hid (show ∀ w, Calls Try.prog 48 #[.int .i64 f] w fun e w' => e = .returned (.bool false) ∧ w = w' from fun w => by rw [← h0]; exact lsmall_any f w)
  clear P PX hbad tX
  go_wp2_with fail
  refine CA.out.mono ?_
  rintro e w6 ⟨rfl, P6, t6⟩
  have X6 := XA.out.kept t6 hzn
  have c0 := X6.c0
  have c1 := X6.c1
  have c2 := X6.c2
  clear CA t6 X6
  go_wp2_with fail
  refine (S0.out _).mono ?_
  rintro e w7 ⟨rfl, rfl⟩
  go_wp2_with fail
  have HT := Lib.hid P6.depth
  clear XA
  go_wp2_with fail
  refine HT.out.mono ?_
  rintro e w8 ⟨rfl, P8, t8⟩
  clear HT t8
  go_wp2_with fail
  exact ⟨WF.intro rfl ⟨j + 1, ms, _, _, rfl, by go_num, by omega, P8, rfl, rfl, rfl, rfl, rfl⟩, by simp [Fmu, intOf]; omega⟩

set_option maxRecDepth 1000000 in
set_option maxHeartbeats 4000000 in
theorem fcase_bad1 {w : World} {n q p : Nat} {A0 : Ar} {R : Rp} {wr : World} {u : Nat → Value} {j : Nat} {ms : List Fm} {a : Option Addr} {cap g o len0 cap0 : Nat} {kind f l b : Int}
    (H : Fnd w n q p A0 R wr u j ms a cap g o len0 cap0 kind f l b) {K0 : Act → World → Prop} (hk : kind % 6 = 0) (hbad : okI f l b = false) (h0 : smallN f = true) (h1 : smallN l = false) :
    Code.wp Try.prog body13 (FOut w n q p A0 R j g o len0 cap0 K0) (frame13 u) wr := by
  obtain ⟨u1, u2, u7, u9, u10, u11, u12, hj, l80, hg, d0, d1, d2, d3, P, hkr, hfr, hn1, hn2⟩ := H
  conv => arg 2; whnf
  simp only [frame13, u1, u2, u7, u9, u10, u11, u12]
  clear u1 u2 u7 u9 u10 u11 u12
  have tX : Touch (fun _ => False) wr (wr.alloc (.cells #[.int .i64 f, .int .i64 l, .int .i64 b] 69)) := Touch.alloc _ _ _
  have PX := P.fresh tX
  have XA := Lib.hid (XFr.new wr f l b)
  have hzn : ¬ (wr.heap.size = q ∨ wr.heap.size = R.buf) := by
    have := P.ltq
    have := P.ltb
    omega
  have hml := P.le
  have hlg : g < wr.heap.size := Nat.lt_of_lt_of_le hg P.bel.size
  have e0 : (wr.alloc (.cells #[.int .i64 f, .int .i64 l, .int .i64 b] 69)).cell? ⟨g, o + j * 4, Option.none⟩ = some (.int .u8 kind) := tX.cell d0 (fun h => h)
  have CA := Lib.hid (PX.pushArg f l b hbad)
  have S0 := Lib.hid (show ∀ w, Calls Try.prog 48 #[.int .i64 f] w fun e w' => e = .returned (.bool true) ∧ w = w' from fun w => by rw [← h0]; exact lsmall_any f w)
  have S1 := Lib.hid (show ∀ w, Calls Try.prog 48 #[.int .i64 l] w fun e w' => e = .returned (.bool false) ∧ w = w' from fun w => by rw [← h1]; exact lsmall_any l w)
  clear P PX hbad tX
  go_wp2_with fail
  refine CA.out.mono ?_
  rintro e w6 ⟨rfl, P6, t6⟩
  have X6 := XA.out.kept t6 hzn
  have c0 := X6.c0
  have c1 := X6.c1
  have c2 := X6.c2
  clear CA t6 X6
  go_wp2_with fail
  refine (S0.out _).mono ?_
  rintro e w7 ⟨rfl, rfl⟩
  go_wp2_with fail
  refine (S1.out _).mono ?_
  rintro e w7 ⟨rfl, rfl⟩
  go_wp2_with fail
  have HT := Lib.hid P6.depth
  clear XA
  go_wp2_with fail
  refine HT.out.mono ?_
  rintro e w8 ⟨rfl, P8, t8⟩
  clear HT t8
  go_wp2_with fail
  exact ⟨WF.intro rfl ⟨j + 1, ms, _, _, rfl, by go_num, by omega, P8, rfl, rfl, rfl, rfl, rfl⟩, by simp [Fmu, intOf]; omega⟩

set_option maxRecDepth 1000000 in
set_option maxHeartbeats 4000000 in
theorem fcase_bad2 {w : World} {n q p : Nat} {A0 : Ar} {R : Rp} {wr : World} {u : Nat → Value} {j : Nat} {ms : List Fm} {a : Option Addr} {cap g o len0 cap0 : Nat} {kind f l b : Int}
    (H : Fnd w n q p A0 R wr u j ms a cap g o len0 cap0 kind f l b) {K0 : Act → World → Prop} (hk : kind % 6 = 0) (hbad : okI f l b = false) (h0 : smallN f = true) (h1 : smallN l = true) (h2 : smallN b = false) :
    Code.wp Try.prog body13 (FOut w n q p A0 R j g o len0 cap0 K0) (frame13 u) wr := by
  obtain ⟨u1, u2, u7, u9, u10, u11, u12, hj, l80, hg, d0, d1, d2, d3, P, hkr, hfr, hn1, hn2⟩ := H
  conv => arg 2; whnf
  simp only [frame13, u1, u2, u7, u9, u10, u11, u12]
  clear u1 u2 u7 u9 u10 u11 u12
  have tX : Touch (fun _ => False) wr (wr.alloc (.cells #[.int .i64 f, .int .i64 l, .int .i64 b] 69)) := Touch.alloc _ _ _
  have PX := P.fresh tX
  have XA := Lib.hid (XFr.new wr f l b)
  have hzn : ¬ (wr.heap.size = q ∨ wr.heap.size = R.buf) := by
    have := P.ltq
    have := P.ltb
    omega
  have hml := P.le
  have hlg : g < wr.heap.size := Nat.lt_of_lt_of_le hg P.bel.size
  have e0 : (wr.alloc (.cells #[.int .i64 f, .int .i64 l, .int .i64 b] 69)).cell? ⟨g, o + j * 4, Option.none⟩ = some (.int .u8 kind) := tX.cell d0 (fun h => h)
  have CA := Lib.hid (PX.pushArg f l b hbad)
  have S0 := Lib.hid (show ∀ w, Calls Try.prog 48 #[.int .i64 f] w fun e w' => e = .returned (.bool true) ∧ w = w' from fun w => by rw [← h0]; exact lsmall_any f w)
  have S1 := Lib.hid (show ∀ w, Calls Try.prog 48 #[.int .i64 l] w fun e w' => e = .returned (.bool true) ∧ w = w' from fun w => by rw [← h1]; exact lsmall_any l w)
  have S2 := Lib.hid (show ∀ w, Calls Try.prog 48 #[.int .i64 b] w fun e w' => e = .returned (.bool false) ∧ w = w' from fun w => by rw [← h2]; exact lsmall_any b w)
  clear P PX hbad tX
  go_wp2_with fail
  refine CA.out.mono ?_
  rintro e w6 ⟨rfl, P6, t6⟩
  have X6 := XA.out.kept t6 hzn
  have c0 := X6.c0
  have c1 := X6.c1
  have c2 := X6.c2
  clear CA t6 X6
  go_wp2_with fail
  refine (S0.out _).mono ?_
  rintro e w7 ⟨rfl, rfl⟩
  go_wp2_with fail
  refine (S1.out _).mono ?_
  rintro e w7 ⟨rfl, rfl⟩
  go_wp2_with fail
  refine (S2.out _).mono ?_
  rintro e w7 ⟨rfl, rfl⟩
  go_wp2_with fail
  have HT := Lib.hid P6.depth
  clear XA
  go_wp2_with fail
  refine HT.out.mono ?_
  rintro e w8 ⟨rfl, P8, t8⟩
  clear HT t8
  go_wp2_with fail
  exact ⟨WF.intro rfl ⟨j + 1, ms, _, _, rfl, by go_num, by omega, P8, rfl, rfl, rfl, rfl, rfl⟩, by simp [Fmu, intOf]; omega⟩
end Go.Proofs.Ytmjnoboeffajbaa
