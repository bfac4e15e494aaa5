/- The listed table of the library's: what the row's condition gives the walks. -/
import Derived.Test.YtphhgmeokmemlaaDoorV7
import Derived.LaidMore
import Derived.OpenShut
import Derived.Stop.Joined
namespace Go.Proofs.YtphhgmeokmemlaaDoor
open Go.ChangeShapes Go.WideShapes Go.ChangeAt Go.RowKit

abbrev laidD : List (String × DataW Unit) := [("math/bits.deBruijn64tab", Rows.laid_math_bits_deBruijn64tab)]
theorem gTab : Tryd.prog.globalNamed "math/bits.deBruijn64tab" = some 0 := by kernel_rfl
theorem tTab : (Tryd.prog.globals[0]?).map (·.type) = some 44 := by kernel_rfl
theorem door_met (os : Os) (args : Array Value) : laidMetH Tryd.prog laidD ((World.doorLaid Tryd.prog 400 os).forCall (fun _ _ => 0) ⟨#[], args, []⟩).memory :=
  laidMetH_of_parts3 (fuel := 8) (laidMet_of_run' 8 (by kernel_rfl) (by kernel_rfl)) (by kernel_rfl) (by kernel_rfl)

theorem laid_eq : (Rows.laid_math_bits_deBruijn64tab : DataW Unit) = .agg (Lib.deBruijn64tab.map fun n => .lit (.int .u8 ((n : Nat) : Int))) := rfl
theorem of_laid {W : World} (h : laidMetH Tryd.prog laidD W) : Tab W := by
  rw [MakeChecks.laidMetH_plain _ _ _ (by kernel_rfl)] at h
  obtain ⟨ps, ⟨g0, t0, cs0, f0, p0, q0, hg0, ht0, hv0, hd0, h1⟩, _⟩ := h
  obtain rfl := Option.some.inj (gTab.symm.trans hg0)
  obtain rfl := Option.some.inj (tTab.symm.trans ht0)
  obtain ⟨xs, m1, rfl, hx1, hlen, hn3, hel⟩ := DataW.trod_array Tryd.underlying44 hd0
  have c5 : Tryd.prog.cellsOf 5 = 1 := by kernel_rfl
  intro j hj
  have hj64 : j < 64 := hj
  have h2 := hel j hj64
  rw [c5, Nat.mul_one] at h2
  have hxj : xs[j]? = some (xs[j]'(by omega)) := List.getElem?_eq_getElem (by omega)
  rw [hxj] at h2
  obtain ⟨n, e1, e2, _⟩ := DataW.trod_int Tryd.underlying5 h2
  have hl : (xs.map (·.1))[j]? = some (.lit (.int .u8 n)) := by
    rw [List.getElem?_map, hxj, e2]; rfl
  simp only [Prod.mk.injEq] at hx1
  have hx2 := hx1.1
  rw [laid_eq] at hx2
  have hx3 := DataW.agg.inj hx2
  rw [← hx3, List.getElem?_map, List.getElem?_eq_getElem hj] at hl
  simp only [Option.map_some, Option.some.injEq, DataW.lit.injEq, Lit.int.injEq, true_and] at hl
  rw [World.var?_cell hg0 hv0 j]
  have h3 : cs0.toList[j]? = some (.int .u8 n) := by
    have h4 : ((cs0.toList.drop j).take 1)[0]? = some (.int .u8 n) := by rw [e1]; rfl
    simpa [List.getElem?_take, List.getElem?_drop] using h4
  rw [← hl] at h3
  rw [← Array.getElem?_toList, h3, List.getD_eq_getElem?_getD, List.getElem?_eq_getElem hj]
  rfl
end Go.Proofs.YtphhgmeokmemlaaDoor
