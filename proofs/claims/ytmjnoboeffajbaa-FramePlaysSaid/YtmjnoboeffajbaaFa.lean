/- Frames: what they are in memory; the small functions; one number put. -/
import Derived.Test.YtmjnoboeffajbaaSg
namespace Go.Proofs.Ytmjnoboeffajbaa
open Go.RowKit Go.Maps
set_option linter.unusedSimpArgs false
set_option linter.unusedVariables false

/-- Frames lie in memory as a stack does, in a block of another type. -/
structure FrAt (w : World) (q p : Nat) (S : Sk) : Prop where
  hq : w.heap[q]? = some (.cells (S.row p) 101 (0, 0))
  hh : S.h ≤ S.cells
  hc : S.cells ≤ 10000
  ho : S.o ≤ 4194304

variable {w w' : World} {q p : Nat} {S : Sk} {A : Ar} {R : Rp}

namespace FrAt
theorem cell (h : FrAt w q p S) (j : Nat) : w.cell? ⟨q, j, Option.none⟩ = (S.row p)[j]? := cell_of_row w q j _ _ _ h.hq
theorem c0 (h : FrAt w q p S) : w.cell? ⟨q, 0, Option.none⟩ = some (.pointer (some ⟨p, 0, Option.none⟩)) := h.cell 0
theorem c1 (h : FrAt w q p S) : w.cell? ⟨q, 1, Option.none⟩ = some (.int .i64 S.o) := h.cell 1
theorem c2 (h : FrAt w q p S) : w.cell? ⟨q, 2, Option.none⟩ = some (.int .i64 S.cells) := h.cell 2
theorem c3 (h : FrAt w q p S) : w.cell? ⟨q, 3, Option.none⟩ = some (.int .i64 S.h) := h.cell 3
theorem c4 (h : FrAt w q p S) : w.cell? ⟨q, 4, Option.none⟩ = some (.bool S.closed) := h.cell 4
theorem fz (h : FrAt w q p S) (j : Nat) : w.frozen? ⟨q, j, Option.none⟩ = false := by simp [World.frozen?, h.hq]
theorem ltq (h : FrAt w q p S) : q < w.heap.size := (Array.getElem?_eq_some_iff.1 h.hq).1
theorem kept (h : FrAt w q p S) {F : Nat → Prop} (t : Touch F w w') (hF : ¬ F q) : FrAt w' q p S := ⟨t.heap hF h.hq, h.hh, h.hc, h.ho⟩
theorem drewN (h : FrAt w q p S) (n : Nat) : FrAt (w.drewN n) q p S := ⟨h.hq, h.hh, h.hc, h.ho⟩
theorem off (h : FrAt w q p S) (a : ArAt w p A R) : ¬ fp R p q := by
  intro hf
  have hq := h.hq
  rcases hf with e | e | e | e | ⟨x, hx, hk⟩
  · rw [e, a.hp] at hq; simp at hq
  · rw [e, a.hb] at hq; simp at hq
  · obtain ⟨es, c, hb, _⟩ := a.ht
    rw [e, hb] at hq; cases hq
  · obtain ⟨es, c, hb, _⟩ := a.hg
    rw [e, hb] at hq; cases hq
  · obtain ⟨cur, hc⟩ := ArAt.own_heap (a.own x hx) hk
    rw [hc] at hq; simp at hq
theorem stored (h : FrAt w q p S) {S' : Sk} (j : Nat) (v : Value) (e : (S.row p).setIfInBounds j v = S'.row p) (h1 : S'.h ≤ S'.cells) (h2 : S'.cells ≤ 10000) (h3 : S'.o ≤ 4194304) : FrAt (w.setCell ⟨q, j, Option.none⟩ v) q p S' := by
  refine ⟨?_, h1, h2, h3⟩
  rw [← e]
  simp [World.setCell, Array.getElem?_modify, h.hq]
end FrAt

theorem fgone_no (h : FrAt w q p S) (hc : S.closed = false) : Calls Try.prog 59 #[.pointer (some ⟨q, 0, Option.none⟩)] w fun e w' => e = .returned (.bool false) ∧ w = w' := by
  have c4 := h.c4
  rw [hc] at c4
  clear hc
  go_enter Try.func59, Try.ntmps59
  go_wp2
  go_ret
  exact ⟨rfl, rfl⟩
theorem fgone_nil (w : World) : Calls Try.prog 59 #[.pointer Option.none] w fun e w' => e = .returned (.bool true) ∧ w = w' := by
  go_enter Try.func59, Try.ntmps59
  go_wp2_with fail
  go_ret
  exact ⟨rfl, rfl⟩

def smallN (n : Int) : Bool := decide (0 ≤ n) && decide (n ≤ 4294967295)
theorem small_ok (n : Nat) (hn : n ≤ 4294967295) (w : World) : Calls Try.prog 64 #[.int .i64 n] w fun e w' => e = .returned (.bool true) ∧ w = w' := by
  have h1 : (n : Int) ≤ 4294967295 := by omega
  go_enter Try.func64, Try.ntmps64
  go_wp2_with fail
  go_ret
  exact ⟨rfl, rfl⟩
end Go.Proofs.Ytmjnoboeffajbaa
