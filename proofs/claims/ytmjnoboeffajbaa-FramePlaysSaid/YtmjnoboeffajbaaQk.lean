/- FramePlays: a frame from below. -/
import Derived.Test.YtmjnoboeffajbaaQd
namespace Go.Proofs.Ytmjnoboeffajbaa
open Go.RowKit Go.Maps
set_option linter.unusedSimpArgs false
set_option linter.unusedVariables false

set_option maxRecDepth 1000000 in
set_option maxHeartbeats 4000000 in
theorem fcase_at {w : World} {n q p : Nat} {A0 : Ar} {R : Rp} {wr : World} {u : Nat → Value} {j : Nat} {ms : List Fm} {a : Option Addr} {cap g o len0 cap0 : Nat} {kind f l b : Int}
    (H : Fnd w n q p A0 R wr u j ms a cap g o len0 cap0 kind f l b) {K0 : Act → World → Prop} (hk : kind % 6 = 4) (hr0 : 0 ≤ f) (hr1 : f < (ms.length : Int)) :
    Code.wp Try.prog body13 (FOut w n q p A0 R j g o len0 cap0 K0) (frame13 u) wr := by
  obtain ⟨u1, u2, u7, u9, u10, u11, u12, hj, l80, hg, d0, d1, d2, d3, P, hkr, hfr, hn1, hn2⟩ := H
  conv => arg 2; whnf
  simp only [frame13, u1, u2, u7, u9, u10, u11, u12]
  clear u1 u2 u7 u9 u10 u11 u12
  have tX : Touch (fun _ => False) wr (wr.alloc (.cells #[.int .i64 f, .int .i64 l, .int .i64 b] 69)) := Touch.alloc _ _ _
  have PX := P.fresh tX
  have XA := Lib.hid (XFr.new wr f l b)
  have hzn : ¬ (wr.heap.size = q ∨ wr.heap.size = R.buf) := by
    have := P.ltq
    have := P.ltb
    omega
  have hml := P.le
  have hlg : g < wr.heap.size := Nat.lt_of_lt_of_le hg P.bel.size
  have e0 : (wr.alloc (.cells #[.int .i64 f, .int .i64 l, .int .i64 b] 69)).cell? ⟨g, o + j * 4, Option.none⟩ = some (.int .u8 kind) := tX.cell d0 (fun h => h)
  obtain ⟨i, rfl⟩ := Int.eq_ofNat_of_zero_le hr0
  rcases P.row.form with ⟨_, _, hf⟩ | ⟨gm, rfl, hcap, _⟩
  · rw [hf] at hr1; simp at hr1; omega
  have hi : i < ms.length := by omega
  obtain ⟨x, hx⟩ : ∃ x, ms[i]? = some x := ⟨_, List.getElem?_eq_getElem hi⟩
  have CA := Lib.hid (PX.atI i x hx)
  clear P PX tX
  go_wp2_with fail
  refine CA.out.mono ?_
  rintro e w6 ⟨rfl, P6, t6⟩
  have tA : Touch (fun _ => False) w6 (w6.alloc (.cells #[.int .i64 x.f, .int .i64 x.p, .int .i64 x.b] 69)) := Touch.alloc _ _ _
  have X6 := (XA.out.kept t6 hzn).kept tA (fun h => h)
  have c06 := (XA.out.kept t6 hzn).c0
  have c0 := X6.c0
  have c0a := X6.c0
  have P7 := P6.fresh tA
  have M0 : (w6.alloc (.cells #[.int .i64 x.f, .int .i64 x.p, .int .i64 x.b] 69)).cell? ⟨gm, i * 3, Option.none⟩ = some (.int .i64 x.f) := P7.row.cell hx 0 (by decide)
  have M1 : (w6.alloc (.cells #[.int .i64 x.f, .int .i64 x.p, .int .i64 x.b] 69)).cell? ⟨gm, i * 3 + 1, Option.none⟩ = some (.int .i64 x.p) := P7.row.cell hx 1 (by decide)
  have M2 : (w6.alloc (.cells #[.int .i64 x.f, .int .i64 x.p, .int .i64 x.b] 69)).cell? ⟨gm, i * 3 + 2, Option.none⟩ = some (.int .i64 x.b) := P7.row.cell hx 2 (by decide)
  have NX := XFr.new w6 x.f x.p x.b
  have N0 := NX.c0
  have N1 := NX.c1
  have N2 := NX.c2
  obtain ⟨wS, hwS⟩ : ∃ wS, wS = w6.alloc (.cells #[.int .i64 x.f, .int .i64 x.p, .int .i64 x.b] 69) := ⟨_, rfl⟩
  rw [← hwS] at c0 M0 M1 M2 N0 N1 N2 P7
  have XW := Lib.hid (hwS ▸ X6)
  clear CA t6 X6 P6 tA NX XA
  simp only [Fm.cells]
  go_wp2_with fail
  rw [← hwS]
  clear hwS
  go_quiet (fail)
  have P8 := P7.fresh (Touch.drewN (fun _ => False) wS nq)
  clear P7 M0 M1 M2 N0 N1 N2 c0
  have HT := Lib.hid P8.depth
  go_wp2_with fail
  refine HT.out.mono ?_
  rintro e w8 ⟨rfl, P8, t8⟩
  clear HT t8
  go_wp2_with fail
  exact ⟨WF.intro rfl ⟨j + 1, ms, _, _, rfl, by go_num, by omega, P8, rfl, rfl, rfl, rfl, rfl⟩, by simp [Fmu, intOf]; omega⟩

set_option maxRecDepth 1000000 in
set_option maxHeartbeats 4000000 in
theorem fcase_atR {w : World} {n q p : Nat} {A0 : Ar} {R : Rp} {wr : World} {u : Nat → Value} {j : Nat} {ms : List Fm} {a : Option Addr} {cap g o len0 cap0 : Nat} {kind f l b : Int}
    (H : Fnd w n q p A0 R wr u j ms a cap g o len0 cap0 kind f l b) {K0 : Act → World → Prop} (hk : kind % 6 = 4) (hr : f < 0 ∨ (ms.length : Int) ≤ f) :
    Code.wp Try.prog body13 (FOut w n q p A0 R j g o len0 cap0 K0) (frame13 u) wr := by
  obtain ⟨u1, u2, u7, u9, u10, u11, u12, hj, l80, hg, d0, d1, d2, d3, P, hkr, hfr, hn1, hn2⟩ := H
  conv => arg 2; whnf
  simp only [frame13, u1, u2, u7, u9, u10, u11, u12]
  clear u1 u2 u7 u9 u10 u11 u12
  have tX : Touch (fun _ => False) wr (wr.alloc (.cells #[.int .i64 f, .int .i64 l, .int .i64 b] 69)) := Touch.alloc _ _ _
  have PX := P.fresh tX
  have XA := Lib.hid (XFr.new wr f l b)
  have hzn : ¬ (wr.heap.size = q ∨ wr.heap.size = R.buf) := by
    have := P.ltq
    have := P.ltb
    omega
  have hml := P.le
  have hlg : g < wr.heap.size := Nat.lt_of_lt_of_le hg P.bel.size
  have e0 : (wr.alloc (.cells #[.int .i64 f, .int .i64 l, .int .i64 b] 69)).cell? ⟨g, o + j * 4, Option.none⟩ = some (.int .u8 kind) := tX.cell d0 (fun h => h)
  have CA := Lib.hid (PX.atR f hr)
  clear P PX tX
  by_cases hneg : f < 0
  · clear hr
    have hneg2 : ¬ 0 ≤ f := by omega
    go_wp2_with fail
    refine CA.out.mono ?_
    rintro e w6 ⟨rfl, P6, t6⟩
    have tA : Touch (fun _ => False) w6 (w6.alloc (.cells z3 69)) := Touch.alloc _ _ _
    have X6 := (XA.out.kept t6 hzn).kept tA (fun h => h)
    have c06 := (XA.out.kept t6 hzn).c0
    have c0 := X6.c0
    have c0a := X6.c0
    have P7 := P6.fresh tA
    obtain ⟨wS, hwS⟩ : ∃ wS, wS = w6.alloc (.cells z3 69) := ⟨_, rfl⟩
    rw [← hwS] at c0 P7
    clear CA t6 X6 P6 tA XA
    go_wp2_with fail
    rw [← hwS]
    clear hwS
    go_quiet (fail)
    have P8 := P7.fresh (Touch.drewN (fun _ => False) wS nq)
    clear P7
    have HT := Lib.hid P8.depth
    go_wp2_with fail
    refine HT.out.mono ?_
    rintro e w8 ⟨rfl, P8, t8⟩
    clear HT t8
    go_wp2_with fail
    exact ⟨WF.intro rfl ⟨j + 1, ms, _, _, rfl, by go_num, by omega, P8, rfl, rfl, rfl, rfl, rfl⟩, by simp [Fmu, intOf]; omega⟩
  · have hbig : ¬ f < (ms.length : Int) := by omega
    have hpos : 0 ≤ f := by omega
    clear hr
    go_wp2_with fail
    refine CA.out.mono ?_
    rintro e w6 ⟨rfl, P6, t6⟩
    have tA : Touch (fun _ => False) w6 (w6.alloc (.cells z3 69)) := Touch.alloc _ _ _
    have X6 := (XA.out.kept t6 hzn).kept tA (fun h => h)
    have c06 := (XA.out.kept t6 hzn).c0
    have c0 := X6.c0
    have c0a := X6.c0
    have P7 := P6.fresh tA
    obtain ⟨wS, hwS⟩ : ∃ wS, wS = w6.alloc (.cells z3 69) := ⟨_, rfl⟩
    rw [← hwS] at c0 P7
    clear CA t6 X6 P6 tA XA
    go_wp2_with fail
    rw [← hwS]
    clear hwS
    have hbd : decide (f < (ms.length : Int)) = false := by simp only [decide_eq_false_iff_not]; omega
    rw [hbd]
    go_quiet (fail)
    have P8 := P7.fresh (Touch.drewN (fun _ => False) wS nq)
    clear P7
    have HT := Lib.hid P8.depth
    go_wp2_with fail
    refine HT.out.mono ?_
    rintro e w8 ⟨rfl, P8, t8⟩
    clear HT t8
    go_wp2_with fail
    exact ⟨WF.intro rfl ⟨j + 1, ms, _, _, rfl, by go_num, by omega, P8, rfl, rfl, rfl, rfl, rfl⟩, by simp [Fmu, intOf]; omega⟩
end Go.Proofs.Ytmjnoboeffajbaa
