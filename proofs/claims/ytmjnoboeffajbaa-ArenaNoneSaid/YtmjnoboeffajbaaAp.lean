/- The walk of the law ArenaNone: it answers true and writes nothing that was there, whatever numbers come in. -/
import Derived.Test.YtmjnoboeffajbaaAh
namespace Go.Proofs.Ytmjnoboeffajbaa
open Go.RowKit Go.Maps
set_option linter.unusedSimpArgs false
set_option linter.unusedVariables false

set_option maxHeartbeats 400000 in
theorem lawclass_any (n : Int) (h : n ≤ 4194304) (w : World) : Calls Try.prog 22 #[.int .i64 n] w fun e w' => e = .returned (.int .i64 (cls n)) ∧ w = w' := by
  have C0 : Hid (clsFrom 18 16 n.toNat = cls n) := rfl
  go_enter Try.func22, Try.ntmps22
  go_wp2
  go_loop [3] (fun c => ∃ cN g : Nat, c = .int .i64 cN ∧ 16 ≤ cN ∧ cN ≤ 8388608 ∧ Hid (clsFrom g cN n.toNat = cls n ∧ n.toNat ≤ cN * 2 ^ g)) (fun c => (n - intOf c).toNat)
  case atStart => exact ⟨16, 18, rfl, by omega, by omega, ⟨C0.out, by omega⟩⟩
  case round =>
    obtain ⟨c, g, rfl, hc1, hc2, hg⟩ := hrel
    by_cases hlt : (c : Int) < n
    · have h8 : (c : Int) < 8000000 := by omega
      go_wp2
      go_round
      case rel =>
        obtain ⟨h1, h2⟩ := hg.out
        cases g with
        | zero => exfalso; simp at h2; omega
        | succ g =>
          refine ⟨2 * c, g, by simp, by omega, by omega, ?_, ?_⟩
          · rw [← h1]
            show _ = if c < n.toNat then _ else _
            rw [if_pos (by omega)]
          · rw [Nat.pow_succ] at h2; rw [Nat.mul_comm 2 c, Nat.mul_assoc, Nat.mul_comm 2]; exact h2
      case measure => simp [intOf]; omega
    · go_wp2
      go_ret
      refine ⟨?_, rfl⟩
      obtain ⟨h1, h2⟩ := hg.out
      rw [clsFrom_done (by omega)] at h1
      rw [← h1]; rfl

theorem eqn22 (a : Option Addr) (n c : Nat) (w : World) : (binOp .eql 22 (.slice a n c) (.slice Option.none 0 0)).run Try.prog w = .ok (.bool a.isNone) w :=
  Lib.run_eql_slice_nil (P := Try.prog) w 22 5 a n c 0 0 Try.underlying22

set_option maxHeartbeats 400000 in
theorem put_nil (x n v : Int) (w : World) : Calls Try.prog 29 #[.pointer Option.none, .int .i64 x, .int .i64 n, .int .u64 v] w fun e w' => e = .returned (.int .i64 12) ∧ w = w' := by
  go_enter Try.func29, Try.ntmps29
  go_wp2
  refine wp_loop_once ?_
  go_wp2
  go_ret
  exact ⟨rfl, rfl⟩

set_option maxRecDepth 100000 in
set_option maxHeartbeats 1000000 in
theorem none_walk (a n : Int) (w : World) : Calls Try.prog 6 #[.int .i64 a, .int .i64 n] w fun e w' => e = .returned (.bool true) ∧ Below w.heap.size w w' := by
  have eqn := eqn22
  by_cases h : n ≤ 4194304
  · go_enter Try.func6, Try.ntmps6
    go_wp2_with fail
    refine (awake_any w).mono ?_
    rintro e w2 ⟨rfl, b2⟩
    go_wp2_with fail
    refine (lawclass_any n h w2).mono ?_
    rintro e w3 ⟨rfl, rfl⟩
    go_wp2_with (first | (go_at_call 25; refine (class_any n h _).mono ?_; rintro e w4 ⟨rfl, rfl⟩) | (go_at_call 29; refine (put_nil _ _ _ _).mono ?_; rintro e w4 ⟨rfl, rfl⟩) | go_in)
    go_ret
    exact ⟨rfl, b2⟩
  · have h' : 4194304 < n := by omega
    go_enter Try.func6, Try.ntmps6
    go_wp2_with fail
    refine (awake_any w).mono ?_
    rintro e w2 ⟨rfl, b2⟩
    go_wp2_with (first | (go_at_call 25; refine (class_big n h' _).mono ?_; rintro e w4 ⟨rfl, rfl⟩) | (go_at_call 29; refine (put_nil _ _ _ _).mono ?_; rintro e w4 ⟨rfl, rfl⟩) | go_in)
    go_ret
    exact ⟨rfl, b2⟩
end Go.Proofs.Ytmjnoboeffajbaa
