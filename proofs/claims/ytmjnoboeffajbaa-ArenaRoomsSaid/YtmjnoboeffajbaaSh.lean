/- Of no stack nothing comes: each function, and the law. -/
import Derived.Test.YtmjnoboeffajbaaSg
namespace Go.Proofs.Ytmjnoboeffajbaa
open Go.RowKit Go.Maps
set_option linter.unusedSimpArgs false
set_option linter.unusedVariables false

theorem sgone_nil (w : World) : Calls Try.prog 56 #[.pointer Option.none] w fun e w' => e = .returned (.bool true) ∧ w = w' := by
  go_enter Try.func56, Try.ntmps56
  go_wp2_with fail
  go_ret
  exact ⟨rfl, rfl⟩
theorem stake_nil (n : Int) (w : World) : Calls Try.prog 34 #[.pointer Option.none, .int .i64 n] w fun e w' => e = .returned (.tuple #[.slice Option.none 0 0, .int .i64 12]) ∧ w = w' := by
  go_enter Try.func34, Try.ntmps34
  go_wp2_with fail
  refine (sgone_nil _).mono ?_
  rintro e w1 ⟨rfl, rfl⟩
  go_wp2_with fail
  go_ret2
  exact ⟨rfl, rfl⟩
theorem spop_nil (w : World) : Calls Try.prog 33 #[.pointer Option.none] w fun e w' => e = .returned (.tuple #[.int .u64 0, .int .i64 12]) ∧ w = w' := by
  go_enter Try.func33, Try.ntmps33
  go_wp2_with fail
  refine (stake_nil 1 _).mono ?_
  rintro e w1 ⟨rfl, rfl⟩
  go_wp2_with fail
  go_ret2
  exact ⟨rfl, rfl⟩
theorem suse_nil (n : Int) (w : World) : Calls Try.prog 63 #[.pointer Option.none, .int .i64 n] w fun e w' => e = .returned (.int .i64 12) ∧ w = w' := by
  go_enter Try.func63, Try.ntmps63
  go_wp2_with fail
  refine (sgone_nil _).mono ?_
  rintro e w1 ⟨rfl, rfl⟩
  go_wp2_with fail
  go_ret
  exact ⟨rfl, rfl⟩
theorem sget_nil (n : Int) (w : World) : Calls Try.prog 44 #[.pointer Option.none, .int .i64 n] w fun e w' => e = .returned (.tuple #[.int .u64 0, .int .i64 12]) ∧ w = w' := by
  go_enter Try.func44, Try.ntmps44
  go_wp2_with fail
  refine (suse_nil n _).mono ?_
  rintro e w1 ⟨rfl, rfl⟩
  go_wp2_with fail
  go_ret2
  exact ⟨rfl, rfl⟩
theorem sset_nil (n v : Int) (w : World) : Calls Try.prog 49 #[.pointer Option.none, .int .i64 n, .int .u64 v] w fun e w' => e = .returned (.int .i64 12) ∧ w = w' := by
  go_enter Try.func49, Try.ntmps49
  go_wp2_with fail
  refine (suse_nil n _).mono ?_
  rintro e w1 ⟨rfl, rfl⟩
  go_wp2_with fail
  go_ret
  exact ⟨rfl, rfl⟩
theorem sunwind_nil (n k : Int) (w : World) : Calls Try.prog 42 #[.pointer Option.none, .int .i64 n, .int .i64 k] w fun e w' => e = .returned (.int .i64 12) ∧ w = w' := by
  go_enter Try.func42, Try.ntmps42
  go_wp2_with fail
  refine (sgone_nil _).mono ?_
  rintro e w1 ⟨rfl, rfl⟩
  go_wp2_with fail
  go_ret
  exact ⟨rfl, rfl⟩
theorem sclose_nil (w : World) : Calls Try.prog 50 #[.pointer Option.none] w fun e w' => e = .returned (.int .i64 12) ∧ w = w' := by
  go_enter Try.func50, Try.ntmps50
  go_wp2_with fail
  refine (sgone_nil _).mono ?_
  rintro e w1 ⟨rfl, rfl⟩
  go_wp2_with fail
  go_ret
  exact ⟨rfl, rfl⟩
theorem sheight_nil (w : World) : Calls Try.prog 43 #[.pointer Option.none] w fun e w' => e = .returned (.int .i64 0) ∧ w = w' := by
  go_enter Try.func43, Try.ntmps43
  go_wp2_with fail
  refine (sgone_nil _).mono ?_
  rintro e w1 ⟨rfl, rfl⟩
  go_wp2_with fail
  go_ret
  exact ⟨rfl, rfl⟩
theorem sroom_nil (w : World) : Calls Try.prog 51 #[.pointer Option.none] w fun e w' => e = .returned (.int .i64 0) ∧ w = w' := by
  go_enter Try.func51, Try.ntmps51
  go_wp2_with fail
  refine (sgone_nil _).mono ?_
  rintro e w1 ⟨rfl, rfl⟩
  go_wp2_with fail
  go_ret
  exact ⟨rfl, rfl⟩
theorem spush_nil (x : Option Addr) (n c : Nat) (w : World) : Calls Try.prog 32 #[.pointer Option.none, .slice x n c] w fun e w' => e = .returned (.int .i64 12) ∧ w = w' := by
  go_enter Try.func32, Try.ntmps32
  go_wp2_with fail
  refine (sgone_nil _).mono ?_
  rintro e w1 ⟨rfl, rfl⟩
  go_wp2_with fail
  go_ret
  exact ⟨rfl, rfl⟩
theorem snew_nil (n : Int) (w : World) : Calls Try.prog 31 #[.pointer Option.none, .int .i64 n] w fun e w' => e = .returned (.tuple #[.pointer Option.none, .int .i64 12]) ∧ w = w' := by
  go_enter Try.func31, Try.ntmps31
  go_wp2_with fail
  go_ret2
  exact ⟨rfl, rfl⟩

set_option maxRecDepth 100000 in
set_option maxHeartbeats 2000000 in
theorem snone_walk (n v : Int) (w : World) : Calls Try.prog 14 #[.int .i64 n, .int .u64 v] w fun e w' => e = .returned (.bool true) ∧ Below w.heap.size w w' := by
  go_enter Try.func14, Try.ntmps14
  go_wp2_with fail
  refine (sawake_any w).mono ?_
  rintro e w2 ⟨rfl, b2⟩
  go_wp2_with fail
  refine (spop_nil _).mono ?_
  rintro e w3 ⟨rfl, rfl⟩
  go_wp2_with fail
  refine (stake_nil n _).mono ?_
  rintro e w3 ⟨rfl, rfl⟩
  go_wp2_with fail
  refine (sget_nil n _).mono ?_
  rintro e w3 ⟨rfl, rfl⟩
  go_wp2_with fail
  refine (snew_nil n _).mono ?_
  rintro e w3 ⟨rfl, rfl⟩
  have b3 := b2.trans ((Touch.alloc (fun _ => False) w2 (.cells #[.int .u64 v] 47)).toBelow b2.size (fun _ h => h.elim))
  go_wp2_with fail
  refine (spush_nil _ _ _ _).mono ?_
  rintro e w3 ⟨rfl, rfl⟩
  go_wp2_with fail
  refine (sset_nil n v _).mono ?_
  rintro e w3 ⟨rfl, rfl⟩
  go_wp2_with fail
  refine (sunwind_nil n n _).mono ?_
  rintro e w3 ⟨rfl, rfl⟩
  go_wp2_with fail
  refine (sclose_nil _).mono ?_
  rintro e w3 ⟨rfl, rfl⟩
  go_wp2_with fail
  refine (sheight_nil _).mono ?_
  rintro e w3 ⟨rfl, rfl⟩
  go_wp2_with fail
  refine (sroom_nil _).mono ?_
  rintro e w3 ⟨rfl, rfl⟩
  go_wp2_with fail
  go_ret
  exact ⟨rfl, b3⟩
end Go.Proofs.Ytmjnoboeffajbaa
