/- FramePlays: none there. -/
import Derived.Test.YtmjnoboeffajbaaQd
namespace Go.Proofs.Ytmjnoboeffajbaa
open Go.RowKit Go.Maps
set_option linter.unusedSimpArgs false
set_option linter.unusedVariables false

set_option maxRecDepth 1000000 in
set_option maxHeartbeats 4000000 in
theorem fcase_popE {w : World} {n q p : Nat} {A0 : Ar} {R : Rp} {wr : World} {u : Nat → Value} {j : Nat} {ms : List Fm} {a : Option Addr} {cap g o len0 cap0 : Nat} {kind f l b : Int}
    (H : Fnd w n q p A0 R wr u j ms a cap g o len0 cap0 kind f l b) {K0 : Act → World → Prop} (hk : kind % 6 = 1) (hnil : ms.length = 0) :
    Code.wp Try.prog body13 (FOut w n q p A0 R j g o len0 cap0 K0) (frame13 u) wr := by
  obtain ⟨u1, u2, u7, u9, u10, u11, u12, hj, l80, hg, d0, d1, d2, d3, P, hkr, hfr, hn1, hn2⟩ := H
  conv => arg 2; whnf
  simp only [frame13, u1, u2, u7, u9, u10, u11, u12]
  clear u1 u2 u7 u9 u10 u11 u12
  have tX : Touch (fun _ => False) wr (wr.alloc (.cells #[.int .i64 f, .int .i64 l, .int .i64 b] 69)) := Touch.alloc _ _ _
  have PX := P.fresh tX
  have XA := Lib.hid (XFr.new wr f l b)
  have hzn : ¬ (wr.heap.size = q ∨ wr.heap.size = R.buf) := by
    have := P.ltq
    have := P.ltb
    omega
  have hml := P.le
  have hlg : g < wr.heap.size := Nat.lt_of_lt_of_le hg P.bel.size
  have e0 : (wr.alloc (.cells #[.int .i64 f, .int .i64 l, .int .i64 b] 69)).cell? ⟨g, o + j * 4, Option.none⟩ = some (.int .u8 kind) := tX.cell d0 (fun h => h)
  have hnz : ∀ k, (Value.slice a ms.length cap).ownBlock = some k → k < wr.heap.size := fun k hk => (P.row.own.lt k hk).2
  have lf := P.ltf
  have tY : Touch (fun _ => False) (wr.alloc (.cells #[.int .i64 f, .int .i64 l, .int .i64 b] 69)) ((wr.alloc (.cells #[.int .i64 f, .int .i64 l, .int .i64 b] 69)).alloc (.cells z3 69)) := Touch.alloc _ _ _
  have e1 : ((wr.alloc (.cells #[.int .i64 f, .int .i64 l, .int .i64 b] 69)).alloc (.cells z3 69)).cell? ⟨g, o + j * 4, Option.none⟩ = some (.int .u8 kind) := tY.cell e0 (fun h => h)
  have hYq : ¬ (wr.heap.size + 1 = q ∨ fp R p (wr.heap.size + 1)) := fun h => by have := lf _ h; omega
  have hYb : ¬ (wr.heap.size + 1 = q ∨ wr.heap.size + 1 = R.buf) := by
    have := P.ltq
    have := P.ltb
    omega
  have hws := P.bel.size
  have PY := PX.fresh tY
  have HYH : ((wr.alloc (.cells #[.int .i64 f, .int .i64 l, .int .i64 b] 69)).alloc (.cells z3 69)).heap[wr.heap.size + 1]? = some (.cells z3 69 (0, 0)) := by
    have := (MapKept.heap_alloc (wr.alloc (.cells #[.int .i64 f, .int .i64 l, .int .i64 b] 69)) (.cells z3 69)).1
    simpa using this
  obtain rfl : ms = [] := List.eq_nil_of_length_eq_zero hnil
  have CA := Lib.hid PY.popE
  clear P PX PY tX tY lf
  go_wp2_with fail
  refine CA.out.mono ?_
  rintro e w6 ⟨rfl, P6, t6⟩
  have Y6 := t6.heap hYb HYH
  have f6 := frozen_of Y6
  have d0' : w6.cell? ⟨wr.heap.size + 1, 0, Option.none⟩ = some (.int .i64 0) := by rw [cell_of_row _ _ _ _ _ _ Y6]; rfl
  have d1' : w6.cell? ⟨wr.heap.size + 1, 1, Option.none⟩ = some (.int .i64 0) := by rw [cell_of_row _ _ _ _ _ _ Y6]; rfl
  have d2' : w6.cell? ⟨wr.heap.size + 1, 2, Option.none⟩ = some (.int .i64 0) := by rw [cell_of_row _ _ _ _ _ _ Y6]; rfl
  have P7 := Lib.hid (P6.poke (z := wr.heap.size + 1) (by omega) hYq (fun k hk => by have := hnz k hk; omega) (set3_touch w6 (wr.heap.size + 1) (.int .i64 0) (.int .i64 0) (.int .i64 0)))
  clear CA t6 P6 Y6 HYH hnz
  go_wp2_with fail
  have HT := Lib.hid P7.out.depth
  clear XA
  skip
  refine HT.out.mono ?_
  rintro e w8 ⟨rfl, P8, t8⟩
  clear HT t8
  go_wp2_with fail
  exact ⟨WF.intro rfl ⟨j + 1, [], _, _, rfl, by go_num, by omega, P8, rfl, rfl, rfl, rfl, rfl⟩, by simp [Fmu, intOf]; omega⟩

set_option maxRecDepth 1000000 in
set_option maxHeartbeats 4000000 in
theorem fcase_topE {w : World} {n q p : Nat} {A0 : Ar} {R : Rp} {wr : World} {u : Nat → Value} {j : Nat} {ms : List Fm} {a : Option Addr} {cap g o len0 cap0 : Nat} {kind f l b : Int}
    (H : Fnd w n q p A0 R wr u j ms a cap g o len0 cap0 kind f l b) {K0 : Act → World → Prop} (hk : kind % 6 = 2) (hnil : ms.length = 0) :
    Code.wp Try.prog body13 (FOut w n q p A0 R j g o len0 cap0 K0) (frame13 u) wr := by
  obtain ⟨u1, u2, u7, u9, u10, u11, u12, hj, l80, hg, d0, d1, d2, d3, P, hkr, hfr, hn1, hn2⟩ := H
  conv => arg 2; whnf
  simp only [frame13, u1, u2, u7, u9, u10, u11, u12]
  clear u1 u2 u7 u9 u10 u11 u12
  have tX : Touch (fun _ => False) wr (wr.alloc (.cells #[.int .i64 f, .int .i64 l, .int .i64 b] 69)) := Touch.alloc _ _ _
  have PX := P.fresh tX
  have XA := Lib.hid (XFr.new wr f l b)
  have hzn : ¬ (wr.heap.size = q ∨ wr.heap.size = R.buf) := by
    have := P.ltq
    have := P.ltb
    omega
  have hml := P.le
  have hlg : g < wr.heap.size := Nat.lt_of_lt_of_le hg P.bel.size
  have e0 : (wr.alloc (.cells #[.int .i64 f, .int .i64 l, .int .i64 b] 69)).cell? ⟨g, o + j * 4, Option.none⟩ = some (.int .u8 kind) := tX.cell d0 (fun h => h)
  have hnz : ∀ k, (Value.slice a ms.length cap).ownBlock = some k → k < wr.heap.size := fun k hk => (P.row.own.lt k hk).2
  have lf := P.ltf
  have tY : Touch (fun _ => False) (wr.alloc (.cells #[.int .i64 f, .int .i64 l, .int .i64 b] 69)) ((wr.alloc (.cells #[.int .i64 f, .int .i64 l, .int .i64 b] 69)).alloc (.cells z3 69)) := Touch.alloc _ _ _
  have e1 : ((wr.alloc (.cells #[.int .i64 f, .int .i64 l, .int .i64 b] 69)).alloc (.cells z3 69)).cell? ⟨g, o + j * 4, Option.none⟩ = some (.int .u8 kind) := tY.cell e0 (fun h => h)
  have hYq : ¬ (wr.heap.size + 1 = q ∨ fp R p (wr.heap.size + 1)) := fun h => by have := lf _ h; omega
  have hYb : ¬ (wr.heap.size + 1 = q ∨ wr.heap.size + 1 = R.buf) := by
    have := P.ltq
    have := P.ltb
    omega
  have hws := P.bel.size
  have PY := PX.fresh tY
  have HYH : ((wr.alloc (.cells #[.int .i64 f, .int .i64 l, .int .i64 b] 69)).alloc (.cells z3 69)).heap[wr.heap.size + 1]? = some (.cells z3 69 (0, 0)) := by
    have := (MapKept.heap_alloc (wr.alloc (.cells #[.int .i64 f, .int .i64 l, .int .i64 b] 69)) (.cells z3 69)).1
    simpa using this
  obtain rfl : ms = [] := List.eq_nil_of_length_eq_zero hnil
  have CA := Lib.hid PY.topE
  clear P PX PY tX tY lf
  go_wp2_with fail
  refine CA.out.mono ?_
  rintro e w6 ⟨rfl, P6, t6⟩
  have Y6 := t6.heap hYb HYH
  have f6 := frozen_of Y6
  have d0' : w6.cell? ⟨wr.heap.size + 1, 0, Option.none⟩ = some (.int .i64 0) := by rw [cell_of_row _ _ _ _ _ _ Y6]; rfl
  have d1' : w6.cell? ⟨wr.heap.size + 1, 1, Option.none⟩ = some (.int .i64 0) := by rw [cell_of_row _ _ _ _ _ _ Y6]; rfl
  have d2' : w6.cell? ⟨wr.heap.size + 1, 2, Option.none⟩ = some (.int .i64 0) := by rw [cell_of_row _ _ _ _ _ _ Y6]; rfl
  have P7 := Lib.hid (P6.poke (z := wr.heap.size + 1) (by omega) hYq (fun k hk => by have := hnz k hk; omega) (set3_touch w6 (wr.heap.size + 1) (.int .i64 0) (.int .i64 0) (.int .i64 0)))
  clear CA t6 P6 Y6 HYH hnz
  go_wp2_with fail
  have HT := Lib.hid P7.out.depth
  clear XA
  skip
  refine HT.out.mono ?_
  rintro e w8 ⟨rfl, P8, t8⟩
  clear HT t8
  go_wp2_with fail
  exact ⟨WF.intro rfl ⟨j + 1, [], _, _, rfl, by go_num, by omega, P8, rfl, rfl, rfl, rfl, rfl⟩, by simp [Fmu, intOf]; omega⟩
end Go.Proofs.Ytmjnoboeffajbaa
