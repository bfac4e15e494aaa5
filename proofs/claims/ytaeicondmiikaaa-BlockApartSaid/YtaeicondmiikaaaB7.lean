/- Bytes read as a string; a slice's first bytes that came in. -/
import Derived.Test.YtaeicondmiikaaaB6
namespace Go.Proofs.Ytaeicondmiikaaa
open Go.RowKit Go.Maps
set_option linter.unusedSimpArgs false
set_option linter.unusedVariables false

def bstr (ns : List Int) : ByteArray := ns.foldl (fun r n => r.push (UInt8.ofNat n.toNat)) ByteArray.empty

theorem conv22 (w : World) (a : Addr) (len cap : Nat) (ns : List Int) (hn : ns.length = len) (hx : ∀ j u, (vals ns)[j]? = some u → w.cell? (a.add j) = some u) :
    (convert 22 9 (.slice (some a) len cap)).run Try.prog w = .ok (.string (bstr ns)) w := by
  rw [run_convert_bytes_string w 22 9 5 (some a) len cap Try.underlying22 Try.underlying5 Try.underlying9]
  subst hn
  refine run_bytesToString w a ns.length cap ns ?_
  have := run_loadCells_list (P := Try.prog) w a (vals ns) hx
  simpa [vals] using this

theorem IsRow.first {w : World} {a : Option Addr} {len cap : Nat} {zs : List Int} (h : IsRow .u8 w a len cap zs) {n : Nat} (hn : n ≤ len) (hpos : 0 < n) :
    ∃ g off, a = some ⟨g, off, Option.none⟩ ∧ len ≤ cap ∧ g < w.heap.size ∧ (zs.take n).length = n ∧ ∀ w', Below w.heap.size w w' → ∀ j u, (vals (zs.take n))[j]? = some u → w'.cell? ((⟨g, off, Option.none⟩ : Addr).add j) = some u := by
  rcases h with ⟨rfl, rfl, rfl, rfl⟩ | ⟨x, rfl, hl, hm, hz, hcell, hwz⟩
  · omega
  · obtain ⟨g, off, spot⟩ := x
    have h0 := hcell 0 (by omega)
    have hspot : spot = Option.none := by
      have := World.cell?_spot h0
      simpa [Addr.add] using this
    subst hspot
    have hlt : g < w.heap.size := by
      have := World.block_lt_of_cell? w _ h0
      simpa [Addr.add] using this
    refine ⟨g, off, rfl, hl, hlt, by simp; omega, fun w' b j u hu => ?_⟩
    simp only [vals, List.getElem?_map, List.getElem?_take] at hu
    by_cases hj : j < n
    · rw [if_pos hj] at hu
      have hj2 : j < zs.length := by omega
      rw [List.getElem?_eq_getElem hj2] at hu
      simp only [Option.map_some, Option.some.injEq] at hu
      subst hu
      rw [Addr.add_lit, b.cell (p := ⟨g, off + j, Option.none⟩) hlt]
      have := hcell j hj2
      rw [Addr.add_lit, List.getD_eq_getElem?_getD, List.getElem?_eq_getElem hj2] at this
      exact this
    · rw [if_neg hj] at hu; simp at hu

/-- An owned row of bytes: its cells. -/
theorem ownRow_cells {w : World} {base g n cap : Nat} {ns : List Int} (h : w.ownsRow base 5 1 (.slice (some ⟨g, 0, Option.none⟩) n cap) n (vals ns)) :
    ∀ j u, (vals ns)[j]? = some u → w.cell? ((⟨g, 0, Option.none⟩ : Addr).add j) = some u := h.cells rfl
end Go.Proofs.Ytaeicondmiikaaa
