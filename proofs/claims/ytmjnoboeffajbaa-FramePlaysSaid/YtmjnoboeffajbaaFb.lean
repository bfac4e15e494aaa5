/- Frames: is a frame right; a frame put, a frame had. -/
import Derived.Test.YtmjnoboeffajbaaFa
namespace Go.Proofs.Ytmjnoboeffajbaa
open Go.RowKit Go.Maps
set_option linter.unusedSimpArgs false
set_option linter.unusedVariables false

variable {w w' : World} {q p : Nat} {S : Sk} {A : Ar} {R : Rp}

/-- A frame: what calls, where, from where on. -/
structure Fm where
  f : Nat
  p : Nat
  b : Nat
def Fm.ok (x : Fm) : Prop := x.f ≤ 4294967295 ∧ x.p ≤ 4294967295 ∧ x.b ≤ 4294967295
def Fm.cells (x : Fm) : Array Value := #[.int .i64 x.f, .int .i64 x.p, .int .i64 x.b]

set_option maxHeartbeats 400000 in
theorem right_ok (x : Fm) (hx : x.ok) (w : World) : Calls Try.prog 60 #[.agg x.cells] w fun e w' => e = .returned (.bool true) ∧ Touch (fun _ => False) w w' := by
  obtain ⟨f, p, b⟩ := x
  obtain ⟨h1, h2, h3⟩ := hx
  have S1 := Lib.hid (small_ok f h1)
  have S2 := Lib.hid (small_ok p h2)
  have S3 := Lib.hid (small_ok b h3)
  have T := Touch.alloc (fun _ => False) w (.cells #[.int .i64 f, .int .i64 p, .int .i64 b] 69)
  unfold Fm.cells
  go_enter Try.func60, Try.ntmps60
  go_wp2_with fail
  refine (S1.out _).mono ?_
  rintro e w2 ⟨rfl, rfl⟩
  go_wp2_with fail
  refine (S2.out _).mono ?_
  rintro e w2 ⟨rfl, rfl⟩
  go_wp2_with fail
  refine (S3.out _).mono ?_
  rintro e w2 ⟨rfl, rfl⟩
  go_wp2_with fail
  go_ret
  exact ⟨rfl, T⟩

/-- Is any of three numbers one that may not be? -/
theorem small_any (n : Int) (w : World) : Calls Try.prog 64 #[.int .i64 n] w fun e w' => e = .returned (.bool (smallN n)) ∧ w = w' := by
  by_cases h0 : 0 ≤ n
  · by_cases h1 : n ≤ 4294967295
    · have hs : smallN n = true := by simp [smallN, h0, h1]
      rw [hs]
      go_enter Try.func64, Try.ntmps64
      go_wp2_with fail
      go_ret
      exact ⟨rfl, rfl⟩
    · have hs : smallN n = false := by simp [smallN, h1]
      rw [hs]
      go_enter Try.func64, Try.ntmps64
      go_wp2_with fail
      go_ret
      exact ⟨rfl, rfl⟩
  · have hs : smallN n = false := by simp [smallN, h0]
    rw [hs]
    go_enter Try.func64, Try.ntmps64
    go_wp2_with fail
    go_ret
    exact ⟨rfl, rfl⟩

/-! ### putting a frame -/
def nth (x : Fm) (i : Nat) : Nat := if i = 0 then x.f else if i = 1 then x.p else x.b
/-- The bytes when the first k numbers of a frame have been put. -/
def putN (b : List Int) (o : Nat) (x : Fm) : Nat → List Int
  | 0 => b
  | k + 1 => over (putN b o x k) (o + 4 * k) (leBytes 4 (nth x k))

theorem putN_length (b : List Int) (o : Nat) (x : Fm) (h : o + 12 ≤ b.length) : ∀ k, k ≤ 3 → (putN b o x k).length = b.length
  | 0, _ => rfl
  | k + 1, hk => by
    have := putN_length b o x h k (by omega)
    show (over (putN b o x k) (o + 4 * k) (leBytes 4 (nth x k))).length = _
    rw [length_over (by rw [leBytes_length, this]; omega), this]

set_option maxRecDepth 100000 in
set_option maxHeartbeats 1000000 in
theorem fput_ok (h : FrAt w q p S) (a : ArAt w p A R) (i : Nat) (hi : i < S.cells) (ho : S.o + 12 * S.cells ≤ A.n) (x : Fm) (hx : x.ok) :
    Calls Try.prog 61 #[.pointer (some ⟨q, 0, Option.none⟩), .int .i64 i, .agg x.cells] w fun e w' => e = .returned (.tuple #[]) ∧ ArAt w' p { A with b := putN A.b (S.o + 12 * i) x 3 } R ∧ Touch (· = R.buf) w w' := by
  obtain ⟨f, pl, b⟩ := x
  obtain ⟨h1, h2, h3⟩ := hx
  have T := Touch.alloc (· = R.buf) w (.cells #[.int .i64 f, .int .i64 pl, .int .i64 b] 69)
  have HF := (h.kept (Touch.alloc (fun _ => False) w (.cells #[.int .i64 f, .int .i64 pl, .int .i64 b] 69)) (fun h => h))
  have HA := (a.kept (Touch.alloc (fun _ => False) w (.cells #[.int .i64 f, .int .i64 pl, .int .i64 b] 69)) (fun _ _ h => h))
  have hq := h.off a
  have hqb : ¬ q = R.buf := fun e => h.off a (.inr (.inl e))
  have hS := h.hc
  have hn := a.hn
  have hO := h.ho
  have e1 : IntKind.i64.wrap (3 * (i : Int)) = 3 * (i : Int) := IntWalk.i64_in _ (by omega)
  have ev : ∀ n : Nat, n ≤ 4294967295 → IntKind.u64.wrap (n : Int) = (n : Int) := fun n hn => IntWalk.u64_in _ (by omega)
  have v1 := ev f h1
  have v2 := ev pl h2
  have v3 := ev b h3
  clear h a ev
  unfold Fm.cells
  go_enter Try.func61, Try.ntmps61
  go_wp2_with fail
  generalize w.alloc (Obj.cells #[Value.int IntKind.i64 ↑f, Value.int IntKind.i64 ↑pl, Value.int IntKind.i64 ↑b] 69) = w1 at *
  go_loopw [15] (fun j wr => ∃ (k : Nat), j = .int .i64 k ∧ k ≤ 3 ∧ FrAt wr q p S ∧ ArAt wr p { A with b := putN A.b (S.o + 12 * i) ⟨f, pl, b⟩ k } R ∧ Touch (· = R.buf) w wr) (fun i _ => 3 - (intOf i).toNat)
  case atStart => exact ⟨0, rfl, by omega, HF, HA, T⟩
  case round =>
    clear HF HA T
    obtain ⟨k, rfl, hk, s, a, t⟩ := hrel
    by_cases hlt : k < 3
    · have e2 : IntKind.i64.wrap (3 * (i : Int) + (k : Int)) = 3 * (i : Int) + (k : Int) := IntWalk.i64_in _ (by omega)
      have e3 : IntKind.i64.wrap (4 * (3 * (i : Int) + (k : Int))) = 4 * (3 * (i : Int) + (k : Int)) := IntWalk.i64_in _ (by omega)
      have e4 : IntKind.i64.wrap ((S.o : Int) + 4 * (3 * (i : Int) + (k : Int))) = (S.o : Int) + 4 * (3 * (i : Int) + (k : Int)) := IntWalk.i64_in _ (by omega)
      have hv : nth ⟨f, pl, b⟩ k ≤ 4294967295 := by
        unfold nth; split
        · exact h1
        · split
          · exact h2
          · exact h3
      have PT := put4 a.drew (S.o + 12 * i + 4 * k) (nth ⟨f, pl, b⟩ k) (by show _ ≤ A.n; omega) (by omega)
      rw [show ((S.o + 12 * i + 4 * k : Nat) : Int) = (S.o : Int) + 4 * (3 * (i : Int) + (k : Int)) by omega] at PT
      have PT2 := Lib.hid PT
      have c0 := s.c0
      have c1 := s.c1
      have td : Touch (· = R.buf) wr wr.drew := Touch.drew _ _
      have S0 := Lib.hid s
      have T0 := Lib.hid t
      have IX : ∀ w : World, (Instr.index 104 (.agg #[.int .i64 f, .int .i64 pl, .int .i64 b]) (.int .i64 (k : Int))).run Try.prog w = .ok (.int .i64 (nth ⟨f, pl, b⟩ k : Nat)) w := by
        intro w
        match k, hlt with
        | 0, _ => rfl
        | 1, _ => rfl
        | 2, _ => rfl
      have ev : IntKind.u64.wrap ((nth ⟨f, pl, b⟩ k : Nat) : Int) = ((nth ⟨f, pl, b⟩ k : Nat) : Int) := IntWalk.u64_in _ (by omega)
      have HP := Lib.hid (show over (putN A.b (S.o + 12 * i) ⟨f, pl, b⟩ k) (S.o + 12 * i + 4 * k) (leBytes 4 (nth ⟨f, pl, b⟩ k)) = putN A.b (S.o + 12 * i) ⟨f, pl, b⟩ (k + 1) from rfl)
      generalize nth ⟨f, pl, b⟩ k = v at *
      clear PT s a t
      go_wp2_with fail
      go_region_with (go_at_call 29; (with_reducible refine PT2.out.mono ?_); rintro e w2 ⟨rfl, a2, t2⟩)
      all_goals
        have s2 := (S0.out.kept td hqb).kept t2 hqb
        have t3 := (T0.out.trans td).trans t2
        rw [HP.out] at a2
        clear t2 td T0 S0 PT2 IX
        go_wp2_with fail
        go_roundw
        case rel => exact ⟨k + 1, by go_num, by omega, s2, a2, t3⟩
        case measure => simp [intOf]; omega
    · obtain rfl : k = 3 := by omega
      go_wp2_with fail
      go_end0
      exact ⟨rfl, a, t⟩
end Go.Proofs.Ytmjnoboeffajbaa
