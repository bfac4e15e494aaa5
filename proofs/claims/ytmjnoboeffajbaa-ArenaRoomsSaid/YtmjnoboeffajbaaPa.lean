/- What a slice of actions that came in is, told as cells: the actions of a stack. -/
import Derived.Test.YtmjnoboeffajbaaSk
import Derived.Test.YtmjnoboeffajbaaSh
import Derived.WalkKit
import Derived.ProofKit
import Derived.OpenShut
import Derived.ShutString
import Derived.ChangeOld
import Derived.Below
import Derived.Deep.Slices
import Derived.Deep.Fields
import Derived.ChangeSame
namespace Go.Proofs.Ytmjnoboeffajbaa
open Go.ChangeShapes Go.WideShapes Go.ChangeAt Go.RowKit Go.Deep
set_option linter.unusedSimpArgs false
set_option linter.unusedVariables false

section
variable {H : Type} {enc : TypeId × Value → H} {w : World} {base : Nat} {spare : Nat → Bool} {held : Bool}
/-- A field of a struct that was read: its own cells, read. -/
theorem field_read {t : TypeId} {fs : Array Field} {fuel : Nat} {cs : List Value} {x : DataW H × List MemPlace} (ht : Try.prog.underlying t = some (.struct fs)) (h : DataW.trod enc Try.prog w base spare held fuel t cs = some x)
    (j : Nat) (f : Field) (hf : fs[j]? = some f) : ∃ n y, DataW.trod enc Try.prog w base spare held n f.type ((cs.drop f.offset).take (Try.prog.cellsOf f.type)) = some y := by
  obtain ⟨xs, n, _, _, _, hlen, hat⟩ := DataW.trod_struct ht h
  have h1 := hat j f hf
  have hj : j < xs.length := by rw [hlen]; exact (Array.getElem?_eq_some_iff.1 hf).1
  rw [List.getElem?_eq_getElem hj] at h1
  exact ⟨n, _, h1⟩
theorem field_int {t : TypeId} {fs : Array Field} {fuel : Nat} {cs : List Value} {x : DataW H × List MemPlace} (ht : Try.prog.underlying t = some (.struct fs)) (h : DataW.trod enc Try.prog w base spare held fuel t cs = some x)
    (j : Nat) (f : Field) (hf : fs[j]? = some f) {k : IntKind} (hu : Try.prog.underlying f.type = some (.int k)) (hc : Try.prog.cellsOf f.type = 1) : ∃ z, cs[f.offset]? = some (.int k z) ∧ (Lit.int k z).wf = true := by
  obtain ⟨n, y, h1⟩ := field_read ht h j f hf
  rw [hc] at h1
  obtain ⟨z, e, _, hw⟩ := DataW.trod_int hu h1
  refine ⟨z, ?_, hw⟩
  have h2 : ((cs.drop f.offset).take 1)[0]? = some (.int k z) := by rw [e]; rfl
  simpa [List.getElem?_take, List.getElem?_drop] using h2
theorem field_words {t : TypeId} {fs : Array Field} {fuel : Nat} {cs : List Value} {x : DataW H × List MemPlace} (ht : Try.prog.underlying t = some (.struct fs)) (h : DataW.trod enc Try.prog w base spare held fuel t cs = some x)
    (hsp : ∀ b, spare b = true) (j : Nat) (f : Field) (hf : fs[j]? = some f) (hu : f.type = 52) : ∃ a len cap zs, cs[f.offset]? = some (.slice a len cap) ∧ IsRow .u64 w a len cap zs := by
  obtain ⟨n, y, h1⟩ := field_read ht h j f hf
  rw [hu, show Try.prog.cellsOf 52 = 1 by kernel_rfl] at h1
  have get : ∀ v : Value, (cs.drop f.offset).take 1 = [v] → cs[f.offset]? = some v := fun v e => by
    have h2 : ((cs.drop f.offset).take 1)[0]? = some v := by rw [e]; rfl
    simpa [List.getElem?_take, List.getElem?_drop] using h2
  rcases open_ints Try.underlying52 Try.underlying47 (by kernel_rfl) h1 with ⟨hcs, _⟩ | ⟨a, l, c, zs, hcs, _, hl, hm, hz, _, hcell, hwz⟩
  · exact ⟨Option.none, 0, 0, [], get _ hcs, .inl ⟨rfl, rfl, rfl, rfl⟩⟩
  · exact ⟨some a, l, c, zs, get _ hcs, .inr ⟨_, rfl, hl, hm, by rw [hsp] at hz; simpa using hz, hcell, hwz⟩⟩
end

/-- One action of a stack. -/
structure SAct (w : World) (x : Addr) (i : Nat) (kind n k : Int) (la : Option Addr) (ll lc : Nat) (zs : List Int) : Prop where
  c0 : w.cell? (x.add (i * 4)) = some (.int .u8 kind)
  c1 : w.cell? (x.add (i * 4 + 1)) = some (.int .i64 n)
  c2 : w.cell? (x.add (i * 4 + 2)) = some (.int .i64 k)
  c3 : w.cell? (x.add (i * 4 + 3)) = some (.slice la ll lc)
  w0 : (Lit.int .u8 kind).wf = true
  w1 : (Lit.int .i64 n).wf = true
  w2 : (Lit.int .i64 k).wf = true
  row : IsRow .u64 w la ll lc zs
def SActs (w : World) (a : Option Addr) (len : Nat) : Prop := ∀ i, i < len → ∃ x kind n k la ll lc zs, a = some x ∧ SAct w x i kind n k la ll lc zs

theorem sacts_open {H : Type} {enc : TypeId × Value → H} {W : World} {base : Nat} {held : Bool} {fuel : Nat} {a : Option Addr} {len cap : Nat} {y : DataW H × List MemPlace}
    (h : DataW.trod enc Try.prog W base (fun _ => true) held fuel 87 [.slice a len cap] = some y) : SActs W a len := by
  rcases open_slice Try.underlying87 h with ⟨hcs, _⟩ | ⟨x, l, c, m, n, D, Pl, hcs, hb, hl, hm, hmm, _, hi⟩
  · simp only [List.cons.injEq, Value.slice.injEq, and_true] at hcs
    obtain ⟨rfl, rfl, rfl⟩ := hcs
    intro i hi; omega
  · simp only [List.cons.injEq, Value.slice.injEq, and_true] at hcs
    obtain ⟨rfl, rfl, rfl⟩ := hcs
    intro i hlt
    obtain ⟨cs', hc, ht⟩ := hi i (by rw [hmm]; simp; omega)
    rw [show Try.prog.cellsOf 89 = 4 by kernel_rfl] at hc
    obtain ⟨_, hcl, hat⟩ := World.cells?_some hc
    obtain ⟨kind, e0, w0⟩ := field_int Try.underlying89 ht 0 _ rfl Try.underlying5 (by kernel_rfl)
    obtain ⟨n, e1, w1⟩ := field_int Try.underlying89 ht 1 _ rfl Try.underlying3 (by kernel_rfl)
    obtain ⟨k, e2, w2⟩ := field_int Try.underlying89 ht 2 _ rfl Try.underlying3 (by kernel_rfl)
    obtain ⟨la, ll, lc, zs, e3, r⟩ := field_words Try.underlying89 ht (fun _ => rfl) 3 _ rfl rfl
    have hadd : ∀ j, j < 4 → W.cell? (x.add (i * 4 + j)) = cs'[j]? := fun j hj => by
      rw [← Go.Deep.add_add]; exact hat j hj
    exact ⟨x, kind, n, k, la, ll, lc, zs, rfl, ⟨(hadd 0 (by decide)).trans e0, (hadd 1 (by decide)).trans e1, (hadd 2 (by decide)).trans e2, (hadd 3 (by decide)).trans e3, w0, w1, w2, r⟩⟩
end Go.Proofs.Ytmjnoboeffajbaa
