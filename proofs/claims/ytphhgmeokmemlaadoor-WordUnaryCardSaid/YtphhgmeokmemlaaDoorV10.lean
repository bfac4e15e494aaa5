/- The document's unary op: bits looked at one by one: the walk. -/
import Derived.Test.YtphhgmeokmemlaaDoorL1
import Derived.Test.YtphhgmeokmemlaaDoorQ3
import Derived.Test.YtphhgmeokmemlaaDoorV8
namespace Go.Proofs.YtphhgmeokmemlaaDoor
open Go.RowKit Go.Maps
set_option linter.unusedSimpArgs false
set_option linter.unusedVariables false

theorem lst_getD (n x i : Nat) (h : i < n) : (lst n x).getD i false = (x / 2 ^ i % 2 == 1) := by
  rw [List.getD_eq_getElem?_getD, lst, List.getElem?_map, List.getElem?_range h]; rfl
theorem ahead_le (x i : Nat) : ahead x i ≤ i := (ahead_spec x i).1
theorem behind_le (x : Nat) : ∀ i, behind x i ≤ i
  | 0 => Nat.le_refl _
  | i + 1 => by
    have := behind_le x i
    unfold behind
    split
    · omega
    · split <;> omega

theorem lst_cut (N a : Nat) : lst N a = lst N (a % 2 ^ N) := by
  unfold lst
  apply List.map_congr_left
  intro i hi
  have hi' : i < N := List.mem_range.1 hi
  have e : (2 : Nat) ^ N = 2 ^ i * 2 ^ (N - i) := by rw [← Nat.pow_add]; congr 1; omega
  have h1 : a % 2 ^ N / 2 ^ i = a / 2 ^ i % 2 ^ (N - i) := by rw [e, Nat.mod_mul_right_div_self]
  have h2 : 2 ∣ 2 ^ (N - i) := ⟨2 ^ (N - i - 1), by rw [Nat.mul_comm, ← Nat.pow_succ]; congr 1; omega⟩
  rw [h1, Nat.mod_mod_of_dvd _ h2]

def RPost (w : World) (v : Nat) (e : Ending) (w' : World) : Prop := e = .returned (.int .u64 (v : Int)) ∧ Touch (fun _ => False) w w'
def rval (op N x : Nat) : Nat :=
  match op with
  | 0 => ahead x N
  | 1 => behind x N
  | 2 => Lib.popAux N x
  | _ => if Lib.popAux N x = 0 then 1 else 0

set_option maxRecDepth 100000 in
set_option maxHeartbeats 2000000 in
theorem ref_ok (op N a x : Nat) (hop : op < 4) (h0 : 0 < N) (hN : N ≤ 64) (ha : a < 18446744073709551616) (hxa : x = a % 2 ^ N) (w : World) :
    Calls Tryd.prog 11 #[.int .i64 op, .int .i64 N, .int .u64 a] w (RPost w (rval op N x)) := by
  have LS := list_ok N a h0 hN ha w
  unfold ListPost at LS
  rw [lst_cut, ← hxa] at LS
  have LS := Lib.hid LS
  clear hxa
  go_enter Tryd.func11, Tryd.ntmps11
  go_wp2_with fail
  refine LS.out.mono ?_
  rintro e w2 ⟨v, rfl, ⟨g, cap, cur, rfl, hB, hg, hc⟩, t⟩
  have hcell : ∀ i, i < N → w2.cell? ⟨g, i, Option.none⟩ = some (.bool (x / 2 ^ i % 2 == 1)) := fun i hi => by
    rw [bits_cell hg hc i (by rw [lst_length]; exact hi), lst_getD N x i hi]
  have HC := Lib.hid hcell
  have HT := Lib.hid t
  rw [lst_length]
  clear hcell hg hc t LS hB
  go_wp2_with fail
  go_loop [8, 9, 10, 11] (fun o a b i => ∃ k : Nat, i = .int .i64 k ∧ k ≤ N ∧ o = .int .i64 (Lib.popAux k x : Nat) ∧ a = .int .i64 (ahead x k : Nat) ∧ b = .int .i64 (behind x k : Nat)) (fun _ _ _ i => N - (intOf i).toNat)
  case atStart => exact ⟨0, rfl, Nat.zero_le _, rfl, rfl, rfl⟩
  case round =>
    obtain ⟨k, rfl, hk, rfl, rfl, rfl⟩ := hrel
    have ho := pa_le k x
    have ha := ahead_le x k
    have hb := behind_le x k
    by_cases hlt : k < N
    · have hcell := HC.out k hlt
      have s1 := pa_snoc k x
      have s2 : ahead x (k + 1) = if x / 2 ^ k % 2 = 1 then 0 else ahead x k + 1 := rfl
      have s3 : behind x (k + 1) = if x / 2 ^ k % 2 = 1 then behind x k else if Lib.popAux k x = 0 then behind x k + 1 else behind x k := rfl
      by_cases hbit : x / 2 ^ k % 2 = 1
      · have hbt : (x / 2 ^ k % 2 == 1) = true := by simpa using hbit
        rw [hbt] at hcell
        rw [hbit] at s1
        rw [if_pos hbit] at s2 s3
        have S := Lib.hid (And.intro s1 (And.intro s2 s3))
        generalize Lib.popAux k x = o at *
        generalize ahead x k = a at *
        generalize behind x k = b at *
        clear s1 s2 s3 hbit hbt
        go_wp2_with fail
        exact ⟨⟨k + 1, by go_num, by omega, by rw [S.out.1]; go_num, by rw [S.out.2.1]; rfl, by rw [S.out.2.2]⟩, by simp [intOf]; omega⟩
      · have hbt : (x / 2 ^ k % 2 == 1) = false := by simpa using hbit
        rw [hbt] at hcell
        have hb0 : x / 2 ^ k % 2 = 0 := by omega
        rw [hb0] at s1
        rw [if_neg hbit] at s2 s3
        by_cases hz : Lib.popAux k x = 0
        · rw [if_pos hz] at s3
          rw [hz] at s1 ho
          rw [hz]
          have S := Lib.hid (And.intro s1 (And.intro s2 s3))
          generalize ahead x k = a at *
          generalize behind x k = b at *
          clear s1 s2 s3 hbit hbt hb0 hz
          go_wp2_with fail
          exact ⟨⟨k + 1, by go_num, by omega, by rw [S.out.1], by rw [S.out.2.1]; go_num, by rw [S.out.2.2]; go_num⟩, by simp [intOf]; omega⟩
        · rw [if_neg hz] at s3
          have S := Lib.hid (And.intro s1 (And.intro s2 s3))
          generalize Lib.popAux k x = o at *
          generalize ahead x k = a at *
          generalize behind x k = b at *
          clear s1 s2 s3 hbit hbt hb0
          go_wp2_with fail
          exact ⟨⟨k + 1, by go_num, by omega, by rw [S.out.1]; simp, by rw [S.out.2.1]; go_num, by rw [S.out.2.2]⟩, by simp [intOf]; omega⟩
    · obtain rfl : k = N := by omega
      have e1 : IntKind.u64.wrap ((ahead x k : Nat) : Int) = ((ahead x k : Nat) : Int) := IntWalk.u64_in _ (by omega)
      have e2 : IntKind.u64.wrap ((behind x k : Nat) : Int) = ((behind x k : Nat) : Int) := IntWalk.u64_in _ (by omega)
      have e3 : IntKind.u64.wrap ((Lib.popAux k x : Nat) : Int) = ((Lib.popAux k x : Nat) : Int) := IntWalk.u64_in _ (by omega)
      have hop' : op = 0 ∨ op = 1 ∨ op = 2 ∨ op = 3 := by omega
      clear HC hlt hop
      rcases hop' with rfl | rfl | rfl | rfl
      · go_wp2_with fail
        go_ret
        exact ⟨rfl, HT.out⟩
      · go_wp2_with fail
        go_ret
        exact ⟨rfl, HT.out⟩
      · go_wp2_with fail
        go_ret
        exact ⟨rfl, HT.out⟩
      · by_cases hz : Lib.popAux k x = 0
        · have HR := Lib.hid (show rval 3 k x = 1 from if_pos hz)
          rw [hz]
          clear hz e1 e2 e3 ho ha hb
          go_wp2_with fail
          go_ret
          exact ⟨by rw [HR.out]; rfl, HT.out⟩
        · have HR := Lib.hid (show rval 3 k x = 0 from if_neg hz)
          go_wp2_with fail
          go_ret
          exact ⟨by rw [HR.out]; rfl, HT.out⟩
end Go.Proofs.YtphhgmeokmemlaaDoor
