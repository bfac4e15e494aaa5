/- Of no frames nothing comes: each function, and the law. -/
import Derived.Test.YtmjnoboeffajbaaFg
namespace Go.Proofs.Ytmjnoboeffajbaa
open Go.RowKit Go.Maps
set_option linter.unusedSimpArgs false
set_option linter.unusedVariables false

theorem hz_new (w : World) (cs : Array Value) : (w.alloc (.cells cs 69)).heap[w.heap.size]? = some (.cells cs 69 (0, 0)) := (MapKept.heap_alloc w _).1

theorem fdepth_nil (w : World) : Calls Try.prog 39 #[.pointer Option.none] w fun e w' => e = .returned (.int .i64 0) ∧ w = w' := by
  go_enter Try.func39, Try.ntmps39
  go_wp2_with fail
  refine (fgone_nil _).mono ?_
  rintro e w1 ⟨rfl, rfl⟩
  go_wp2_with fail
  go_ret
  exact ⟨rfl, rfl⟩

set_option maxRecDepth 100000 in
set_option maxHeartbeats 1000000 in
theorem fat_nil (n : Int) (w : World) : Calls Try.prog 41 #[.pointer Option.none, .int .i64 n] w fun e w' => e = .returned (.tuple #[.agg z3, .int .i64 12]) ∧ Touch (fun _ => False) w w' := by
  have hz := hz_new w z3
  have tA : Touch (fun _ => False) w (w.alloc (.cells z3 69)) := Touch.alloc _ w _
  have f0 := frozen_of hz
  have HZ := Lib.hid hz
  have tt := Lib.hid tA
  clear hz tA
  go_enter Try.func41, Try.ntmps41
  go_wp2_with fail
  refine (fgone_nil _).mono ?_
  rintro e w1 ⟨rfl, rfl⟩
  go_wp2_with fail
  refine bodyPost_ret (v := .tuple #[.agg z3, .int .i64 12]) ?_ rfl ⟨rfl, tt.out⟩
  rw [results_cell_tmp rfl]
  simp [asAddr, Result.andThen, load_fm HZ.out rfl]

set_option maxRecDepth 100000 in
set_option maxHeartbeats 1000000 in
theorem ftop_nil (w : World) : Calls Try.prog 45 #[.pointer Option.none] w fun e w' => e = .returned (.tuple #[.agg z3, .int .i64 12]) ∧ Touch (fun _ => False) w w' := by
  have hz := hz_new w z3
  have tA : Touch (fun _ => False) w (w.alloc (.cells z3 69)) := Touch.alloc _ w _
  have HZ := Lib.hid hz
  have tt := Lib.hid tA
  clear hz tA
  go_enter Try.func45, Try.ntmps45
  go_wp2_with fail
  refine (fdepth_nil _).mono ?_
  rintro e w1 ⟨rfl, rfl⟩
  go_wp2_with fail
  refine (fat_nil _ _).mono ?_
  rintro e w2 ⟨rfl, t2⟩
  have hz2 := t2.heap (fun h => h) HZ.out
  have f0 := frozen_of hz2
  have d0 : w2.cell? ⟨w.heap.size, 0, Option.none⟩ = some (.int .i64 0) := by rw [cell_of_row _ _ _ _ _ _ hz2]; rfl
  have d1 : w2.cell? ⟨w.heap.size, 1, Option.none⟩ = some (.int .i64 0) := by rw [cell_of_row _ _ _ _ _ _ hz2]; rfl
  have d2 : w2.cell? ⟨w.heap.size, 2, Option.none⟩ = some (.int .i64 0) := by rw [cell_of_row _ _ _ _ _ _ hz2]; rfl
  have T2 := Lib.hid (tt.out.trans t2)
  have HZ2 := Lib.hid hz2
  clear hz2 t2 HZ tt
  go_wp2_with fail
  refine bodyPost_ret (v := .tuple #[.agg z3, .int .i64 12]) ?_ rfl ⟨rfl, T2.out.trans' (set3_touch w2 w.heap.size _ _ _) (fun _ _ h => h) (fun i hi h => by omega)⟩
  rw [results_cell_tmp rfl]
  simp [asAddr, Result.andThen, load_fm (set3_heap HZ2.out _ _ _) rfl]

/-- What the top frame's taker answers where there is none. -/
theorem fpop_from (v : Option Addr) (w : World) (e' : Int) (he : e' ≠ 0)
    (TP : ∀ w1, Touch (fun _ => False) w w1 → Calls Try.prog 45 #[.pointer v] w1 fun e w' => e = .returned (.tuple #[.agg z3, .int .i64 e']) ∧ Touch (fun _ => False) w1 w') :
    Calls Try.prog 38 #[.pointer v] w fun e w' => e = .returned (.tuple #[.agg z3, .int .i64 e']) ∧ Touch (fun _ => False) w w' := by
  have hz := hz_new w z3
  have tA : Touch (fun _ => False) w (w.alloc (.cells z3 69)) := Touch.alloc _ w _
  have HZ := Lib.hid hz
  have tt := Lib.hid tA
  have TP2 := Lib.hid (TP _ tA)
  clear hz tA TP
  go_enter Try.func38, Try.ntmps38
  go_wp2_with fail
  refine TP2.out.mono ?_
  rintro e w2 ⟨rfl, t2⟩
  have hz2 := t2.heap (fun h => h) HZ.out
  have L2 : w.heap.size < w2.heap.size := by have := t2.size; simp at this; omega
  have u1 := Unf.of hz2
  have f5 := (u1.alloc (.cells z3 69)).fz
  have f6 := ((u1.set w.heap.size 0 (.int .i64 0)).alloc (.cells z3 69)).fz
  have f7 := (((u1.set w.heap.size 0 (.int .i64 0)).set w.heap.size 1 (.int .i64 0)).alloc (.cells z3 69)).fz
  have d0 : w2.cell? ⟨w.heap.size, 0, Option.none⟩ = some (.int .i64 0) := by rw [cell_of_row _ _ _ _ _ _ hz2]; rfl
  have d1 : w2.cell? ⟨w.heap.size, 1, Option.none⟩ = some (.int .i64 0) := by rw [cell_of_row _ _ _ _ _ _ hz2]; rfl
  have d2 : w2.cell? ⟨w.heap.size, 2, Option.none⟩ = some (.int .i64 0) := by rw [cell_of_row _ _ _ _ _ _ hz2]; rfl
  have t5 := set3_touch w2 w.heap.size (.int .i64 0) (.int .i64 0) (.int .i64 0)
  have hz5 := set3_heap hz2 (.int .i64 0) (.int .i64 0) (.int .i64 0)
  have tB : Touch (fun _ => False) (set3 w2 w.heap.size (.int .i64 0) (.int .i64 0) (.int .i64 0)) ((set3 w2 w.heap.size (.int .i64 0) (.int .i64 0) (.int .i64 0)).alloc (.cells z3 69)) := Touch.alloc _ _ _
  have hz6 := Lib.hid (tB.heap (fun h => h) hz5)
  have T6 := Lib.hid ((((tt.out.trans t2).trans' (H := fun _ => False) t5 (fun _ _ h => h) (fun i hi h => by omega)).trans tB))
  clear hz2 u1 t5 hz5 tB t2 HZ tt TP2
  go_wp2_with fail
  refine bodyPost_ret (v := .tuple #[.agg z3, .int .i64 e']) ?_ rfl ⟨rfl, T6.out⟩
  rw [results_cell_tmp rfl]
  simp [asAddr, Result.andThen, load_fm hz6.out rfl]

theorem fpop_nil (w : World) : Calls Try.prog 38 #[.pointer Option.none] w fun e w' => e = .returned (.tuple #[.agg z3, .int .i64 12]) ∧ Touch (fun _ => False) w w' :=
  fpop_from Option.none w 12 (by decide) (fun w1 _ => ftop_nil w1)

theorem fclear_nil (w : World) : Calls Try.prog 46 #[.pointer Option.none] w fun e w' => e = .returned (.tuple #[]) ∧ w = w' := by
  go_enter Try.func46, Try.ntmps46
  go_wp2_with fail
  refine (fgone_nil _).mono ?_
  rintro e w1 ⟨rfl, rfl⟩
  go_wp2_with fail
  go_end0
  exact ⟨rfl, rfl⟩
theorem fclose_nil (w : World) : Calls Try.prog 47 #[.pointer Option.none] w fun e w' => e = .returned (.int .i64 12) ∧ w = w' := by
  go_enter Try.func47, Try.ntmps47
  go_wp2_with fail
  refine (fgone_nil _).mono ?_
  rintro e w1 ⟨rfl, rfl⟩
  go_wp2_with fail
  go_ret
  exact ⟨rfl, rfl⟩
theorem fpush_nil (w : World) : Calls Try.prog 37 #[.pointer Option.none, .agg z3] w fun e w' => e = .returned (.int .i64 12) ∧ Touch (fun _ => False) w w' := by
  have tA := Lib.hid (Touch.alloc (fun _ => False) w (.cells z3 69))
  go_enter Try.func37, Try.ntmps37
  go_wp2_with fail
  refine (fgone_nil _).mono ?_
  rintro e w1 ⟨rfl, rfl⟩
  go_wp2_with fail
  go_ret
  exact ⟨rfl, tA.out⟩
theorem fgo_nil (n : Int) (w : World) : Calls Try.prog 40 #[.pointer Option.none, .int .i64 n] w fun e w' => e = .returned (.int .i64 12) ∧ Touch (fun _ => False) w w' := by
  go_enter Try.func40, Try.ntmps40
  go_wp2_with fail
  refine (ftop_nil _).mono ?_
  rintro e w1 ⟨rfl, t1⟩
  have tA := Lib.hid (t1.trans (Touch.alloc (fun _ => False) w1 (.cells z3 69)))
  clear t1
  go_wp2_with fail
  go_ret
  exact ⟨rfl, tA.out⟩
theorem fnew_nil (n : Int) (w : World) : Calls Try.prog 36 #[.pointer Option.none, .int .i64 n] w fun e w' => e = .returned (.tuple #[.pointer Option.none, .int .i64 12]) ∧ w = w' := by
  go_enter Try.func36, Try.ntmps36
  go_wp2_with fail
  go_ret2
  exact ⟨rfl, rfl⟩

set_option maxRecDepth 100000 in
set_option maxHeartbeats 2000000 in
theorem fnone_walk (n : Int) (w : World) : Calls Try.prog 12 #[.int .i64 n] w fun e w' => e = .returned (.bool true) ∧ Below w.heap.size w w' := by
  go_enter Try.func12, Try.ntmps12
  go_wp2_with fail
  refine (fawake_any w).mono ?_
  rintro e w2 ⟨rfl, b2⟩
  go_wp2_with fail
  refine (fpop_nil _).mono ?_
  rintro e w3 ⟨rfl, t3⟩
  have b3 := b2.trans ((t3.trans (Touch.alloc (fun _ => False) w3 (.cells z3 69))).toBelow b2.size (fun _ h => h.elim))
  clear b2 t3
  go_wp2_with fail
  refine (ftop_nil _).mono ?_
  rintro e w4 ⟨rfl, t4⟩
  have b4 := b3.trans ((t4.trans (Touch.alloc (fun _ => False) w4 (.cells z3 69))).toBelow b3.size (fun _ h => h.elim))
  clear b3 t4
  go_wp2_with fail
  refine (fat_nil n _).mono ?_
  rintro e w5 ⟨rfl, t5⟩
  have b5 := b4.trans ((t5.trans (Touch.alloc (fun _ => False) w5 (.cells z3 69))).toBelow b4.size (fun _ h => h.elim))
  clear b4 t5
  go_wp2_with fail
  refine (fnew_nil n _).mono ?_
  rintro e w3 ⟨rfl, rfl⟩
  go_wp2_with fail
  refine (fclear_nil _).mono ?_
  rintro e w3 ⟨rfl, rfl⟩
  go_wp2_with fail
  refine (fpush_nil _).mono ?_
  rintro e w6 ⟨rfl, t6⟩
  have b6 := b5.trans (t6.toBelow b5.size (fun _ h => h.elim))
  clear b5 t6
  go_wp2_with fail
  refine (fgo_nil n _).mono ?_
  rintro e w7 ⟨rfl, t7⟩
  have b7 := b6.trans (t7.toBelow b6.size (fun _ h => h.elim))
  clear b6 t7
  go_wp2_with fail
  refine (fclose_nil _).mono ?_
  rintro e w3 ⟨rfl, rfl⟩
  go_wp2_with fail
  refine (fdepth_nil _).mono ?_
  rintro e w3 ⟨rfl, rfl⟩
  go_wp2_with fail
  go_ret
  exact ⟨rfl, b7⟩
end Go.Proofs.Ytmjnoboeffajbaa
