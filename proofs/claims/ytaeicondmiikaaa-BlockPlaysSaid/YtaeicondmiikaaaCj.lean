/- BlockPlays: bytes of the law's own. -/
import Derived.Test.YtaeicondmiikaaaCc
namespace Go.Proofs.Ytaeicondmiikaaa
open Go.RowKit Go.Maps
set_option linter.unusedSimpArgs false
set_option linter.unusedVariables false

theorem run_make22' (n : Nat) (h : n ≤ 2000) (w : World) : (Instr.makeSlice 22 (.int .i64 n) (.int .i64 n)).run Try.prog w = .ok (.slice (some ⟨w.heap.size, 0, Option.none⟩) n n) (w.alloc (.cells (bytesOf (zeros n)) 5)) := by
  obtain ⟨i, hi, hz, hs, hb⟩ := info_parts info5
  have := run_make (P := Try.prog) w 22 5 i (.int .u8 0) Try.underlying22 hi hz .i64 .i64 n n (by omega) (by omega) (by rw [hb]; omega) (by omega)
  rw [this, hs]
  simp [Value.cells, bytesOf_zeros]
/-- Bytes in a block of the law's own. -/
def BB (w : World) (g n : Nat) (cs : List Int) : Prop := cs.length = n ∧ w.heap[g]? = some (.cells (bytesOf cs) 5 (0, 0))
theorem BB.cell {w : World} {g n : Nat} {cs : List Int} (h : BB w g n cs) {q : Nat} (hq : q < n) : w.cell? ⟨g, q, Option.none⟩ = some (.int .u8 (cs.getD q 0)) := by
  rw [cell_of_row _ _ _ _ _ _ h.2]
  have := h.1
  simp [bytesOf, List.getD_eq_getElem?_getD, show q < cs.length by omega]
theorem BB.fz {w : World} {g n : Nat} {cs : List Int} (h : BB w g n cs) (q : Nat) : w.frozen? ⟨g, q, Option.none⟩ = false := by unfold World.frozen?; rw [h.2]; simp
theorem BB.set {w : World} {g n : Nat} {cs : List Int} (h : BB w g n cs) (q : Nat) (z : Int) : BB (w.setCell ⟨g, q, Option.none⟩ (.int .u8 z)) g n (cs.set q z) := by
  refine ⟨by rw [List.length_set]; exact h.1, ?_⟩
  have h2 := h.2
  have e : bytesOf (cs.set q z) = (bytesOf cs).setIfInBounds q (.int .u8 z) := by simp [bytesOf, List.map_set]
  rw [e]
  simp [World.setCell, Array.getElem?_modify, h2]
theorem BB.new (w : World) (n : Nat) : BB (w.alloc (.cells (bytesOf (zeros n)) 5)) w.heap.size n (zeros n) := ⟨by simp [zeros], (MapKept.heap_alloc w _).1⟩
theorem BB.kept {w w' : World} {g n : Nat} {cs : List Int} (h : BB w g n cs) {F : Nat → Prop} (t : Touch F w w') (hF : ¬ F g) : BB w' g n cs := ⟨h.1, t.heap hF h.2⟩
end Go.Proofs.Ytaeicondmiikaaa
