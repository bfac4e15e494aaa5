/- FramePlays: the top frame. -/
import Derived.Test.YtmjnoboeffajbaaQd
namespace Go.Proofs.Ytmjnoboeffajbaa
open Go.RowKit Go.Maps
set_option linter.unusedSimpArgs false
set_option linter.unusedVariables false

set_option maxRecDepth 1000000 in
set_option maxHeartbeats 4000000 in
theorem fcase_top {w : World} {n q p : Nat} {A0 : Ar} {R : Rp} {wr : World} {u : Nat → Value} {j : Nat} {ms : List Fm} {a : Option Addr} {cap g o len0 cap0 : Nat} {kind f l b : Int}
    (H : Fnd w n q p A0 R wr u j ms a cap g o len0 cap0 kind f l b) {K0 : Act → World → Prop} {m' : List Fm} {x : Fm} (hk : kind % 6 = 2) (hm : ms = m' ++ [x]) :
    Code.wp Try.prog body13 (FOut w n q p A0 R j g o len0 cap0 K0) (frame13 u) wr := by
  obtain ⟨u1, u2, u7, u9, u10, u11, u12, hj, l80, hg, d0, d1, d2, d3, P, hkr, hfr, hn1, hn2⟩ := H
  conv => arg 2; whnf
  simp only [frame13, u1, u2, u7, u9, u10, u11, u12]
  clear u1 u2 u7 u9 u10 u11 u12
  have tX : Touch (fun _ => False) wr (wr.alloc (.cells #[.int .i64 f, .int .i64 l, .int .i64 b] 69)) := Touch.alloc _ _ _
  have PX := P.fresh tX
  have XA := Lib.hid (XFr.new wr f l b)
  have hzn : ¬ (wr.heap.size = q ∨ wr.heap.size = R.buf) := by
    have := P.ltq
    have := P.ltb
    omega
  have hml := P.le
  have hlg : g < wr.heap.size := Nat.lt_of_lt_of_le hg P.bel.size
  have e0 : (wr.alloc (.cells #[.int .i64 f, .int .i64 l, .int .i64 b] 69)).cell? ⟨g, o + j * 4, Option.none⟩ = some (.int .u8 kind) := tX.cell d0 (fun h => h)
  rcases P.row.form with ⟨_, _, hf⟩ | ⟨gm, rfl, hcap, _⟩
  · rw [hf] at hm; simp at hm
  have hpos : 0 < ms.length := by rw [hm]; simp
  have hnz : ∀ k, (Value.slice (some ⟨gm, 0, Option.none⟩) ms.length cap).ownBlock = some k → k < wr.heap.size := fun k hk => (P.row.own.lt k hk).2
  have lf := P.ltf
  have tY : Touch (fun _ => False) (wr.alloc (.cells #[.int .i64 f, .int .i64 l, .int .i64 b] 69)) ((wr.alloc (.cells #[.int .i64 f, .int .i64 l, .int .i64 b] 69)).alloc (.cells z3 69)) := Touch.alloc _ _ _
  have e1 : ((wr.alloc (.cells #[.int .i64 f, .int .i64 l, .int .i64 b] 69)).alloc (.cells z3 69)).cell? ⟨g, o + j * 4, Option.none⟩ = some (.int .u8 kind) := tY.cell e0 (fun h => h)
  have hYq : ¬ (wr.heap.size + 1 = q ∨ fp R p (wr.heap.size + 1)) := fun h => by have := lf _ h; omega
  have hYb : ¬ (wr.heap.size + 1 = q ∨ wr.heap.size + 1 = R.buf) := by
    have := P.ltq
    have := P.ltb
    omega
  have hws := P.bel.size
  have PY := PX.fresh tY
  have HYH : ((wr.alloc (.cells #[.int .i64 f, .int .i64 l, .int .i64 b] 69)).alloc (.cells z3 69)).heap[wr.heap.size + 1]? = some (.cells z3 69 (0, 0)) := by
    have := (MapKept.heap_alloc (wr.alloc (.cells #[.int .i64 f, .int .i64 l, .int .i64 b] 69)) (.cells z3 69)).1
    simpa using this
  have hx : ms[ms.length - 1]? = some x := by rw [hm]; simp
  have e2 : IntKind.i64.wrap ((ms.length : Int) - 1) = ((ms.length - 1 : Nat) : Int) := by rw [IntWalk.i64_in _ (by omega)]; omega
  have l1 : ms.length - 1 < ms.length := by omega
  have HM := Lib.hid hm
  have CA := Lib.hid (PY.top x hm)
  clear P PX PY tX tY lf hm
  go_wp2_with fail
  refine CA.out.mono ?_
  rintro e w6 ⟨rfl, P6, t6⟩
  have Y6 := t6.heap hYb HYH
  have f6 := frozen_of Y6
  have d0' : w6.cell? ⟨wr.heap.size + 1, 0, Option.none⟩ = some (.int .i64 0) := by rw [cell_of_row _ _ _ _ _ _ Y6]; rfl
  have d1' : w6.cell? ⟨wr.heap.size + 1, 1, Option.none⟩ = some (.int .i64 0) := by rw [cell_of_row _ _ _ _ _ _ Y6]; rfl
  have d2' : w6.cell? ⟨wr.heap.size + 1, 2, Option.none⟩ = some (.int .i64 0) := by rw [cell_of_row _ _ _ _ _ _ Y6]; rfl
  have P7 := P6.poke (z := wr.heap.size + 1) (by omega) hYq (fun k hk => by have := hnz k hk; omega) (set3_touch w6 (wr.heap.size + 1) (.int .i64 x.f) (.int .i64 x.p) (.int .i64 x.b))
  have hz7 := set3_heap Y6 (.int .i64 x.f) (.int .i64 x.p) (.int .i64 x.b)
  obtain ⟨wS, hwS⟩ : ∃ wS, wS = set3 w6 (wr.heap.size + 1) (.int .i64 x.f) (.int .i64 x.p) (.int .i64 x.b) := ⟨_, rfl⟩
  have M0 : (set3 w6 (wr.heap.size + 1) (.int .i64 x.f) (.int .i64 x.p) (.int .i64 x.b)).cell? ⟨gm, (ms.length - 1) * 3, Option.none⟩ = some (.int .i64 x.f) := P7.row.cell hx 0 (by decide)
  have M1 : (set3 w6 (wr.heap.size + 1) (.int .i64 x.f) (.int .i64 x.p) (.int .i64 x.b)).cell? ⟨gm, (ms.length - 1) * 3 + 1, Option.none⟩ = some (.int .i64 x.p) := P7.row.cell hx 1 (by decide)
  have M2 : (set3 w6 (wr.heap.size + 1) (.int .i64 x.f) (.int .i64 x.p) (.int .i64 x.b)).cell? ⟨gm, (ms.length - 1) * 3 + 2, Option.none⟩ = some (.int .i64 x.b) := P7.row.cell hx 2 (by decide)
  have N0 : (set3 w6 (wr.heap.size + 1) (.int .i64 x.f) (.int .i64 x.p) (.int .i64 x.b)).cell? ⟨wr.heap.size + 1, 0, Option.none⟩ = some (.int .i64 x.f) := by rw [cell_of_row _ _ _ _ _ _ hz7]; rfl
  have N1 : (set3 w6 (wr.heap.size + 1) (.int .i64 x.f) (.int .i64 x.p) (.int .i64 x.b)).cell? ⟨wr.heap.size + 1, 1, Option.none⟩ = some (.int .i64 x.p) := by rw [cell_of_row _ _ _ _ _ _ hz7]; rfl
  have N2 : (set3 w6 (wr.heap.size + 1) (.int .i64 x.f) (.int .i64 x.p) (.int .i64 x.b)).cell? ⟨wr.heap.size + 1, 2, Option.none⟩ = some (.int .i64 x.b) := by rw [cell_of_row _ _ _ _ _ _ hz7]; rfl
  rw [← hwS] at M0 M1 M2 N0 N1 N2 P7
  clear CA t6 P6 Y6 HYH hnz hz7
  unfold set3 at hwS
  simp only [Fm.cells]
  go_wp2_with fail
  rw [← hwS]
  clear hwS f6 d0' d1' d2'
  go_quiet (fail)
  have P8 := P7.fresh (Touch.drewN (fun _ => False) wS nq)
  clear P7 M0 M1 M2 N0 N1 N2
  have HT := Lib.hid P8.depth
  clear XA
  go_wp2_with fail
  refine HT.out.mono ?_
  rintro e w8 ⟨rfl, P8, t8⟩
  clear HT t8
  go_wp2_with fail
  exact ⟨WF.intro rfl ⟨j + 1, ms, _, _, rfl, by go_num, by omega, P8, rfl, rfl, rfl, rfl, rfl⟩, by simp [Fmu, intOf]; omega⟩
end Go.Proofs.Ytmjnoboeffajbaa
