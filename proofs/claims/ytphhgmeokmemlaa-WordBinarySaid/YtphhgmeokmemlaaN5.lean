/- The document's division of lists. -/
import Derived.Test.YtphhgmeokmemlaaN4
namespace Go.Proofs.Ytphhgmeokmemlaa
open Go.RowKit Go.Maps
set_option linter.unusedSimpArgs false
set_option linter.unusedVariables false

variable {w w' wr : World}

/-- One bit of a list stored. -/
theorem set_list (cur : Array Value) (l : List Bool) (i : Nat) (x : Bool) (h : cur.toList.take l.length = bvals l) (hi : i < l.length) :
    (cur.setIfInBounds i (.bool x)).toList.take (l.set i x).length = bvals (l.set i x) := by
  rw [List.length_set, Array.toList_setIfInBounds, List.take_set, h]
  simp [bvals, List.map_set]
theorem Bits.set {g cap : Nat} {l : List Bool} {B n : Nat} (h : Bits w (.slice (some ⟨g, 0, Option.none⟩) n cap) l B) (i : Nat) (hi : i < l.length) (x : Bool) :
    Bits (w.setCell ⟨g, i, Option.none⟩ (.bool x)) (.slice (some ⟨g, 0, Option.none⟩) n cap) (l.set i x) B ∧ Touch (· = g) w (w.setCell ⟨g, i, Option.none⟩ (.bool x)) ∧ B ≤ g ∧ n = l.length ∧
    (∃ u, w.cell? ⟨g, i, Option.none⟩ = some u) ∧ w.frozen? ⟨g, i, Option.none⟩ = false ∧ g < w.heap.size := by
  obtain ⟨g', cap', cur, hv, hB, hg, hc⟩ := h
  simp only [Value.slice.injEq, Option.some.injEq, Addr.mk.injEq] at hv
  obtain ⟨⟨rfl, -⟩, rfl, rfl⟩ := hv
  refine ⟨⟨g, cap, cur.setIfInBounds i (.bool x), by rw [List.length_set], hB, ?_, set_list cur l i x hc hi⟩, Touch.cell1 w g i _, hB, rfl, ⟨_, bits_cell hg hc i hi⟩, by simp [World.frozen?, hg], (Array.getElem?_eq_some_iff.1 hg).1⟩
  simp [World.setCell, Array.getElem?_modify, hg]

theorem wd_set0 (l : List Bool) (h : 0 < l.length) (h0 : l.getD 0 false = false) (x : Bool) : wd (l.set 0 x) = wd l + b1 x := by
  match l, h with
  | b :: r, _ =>
    simp only [List.getD_cons_zero] at h0
    subst h0
    simp only [List.set_cons_zero, wd, b1]
    cases x <;> simp
theorem wd_drop_next (l : List Bool) (k : Nat) (h : k < l.length) : wd (l.drop k) = 2 * wd (l.drop (k + 1)) + b1 (l.getD k false) := by
  rw [drop_at l k h, wd]; rfl
theorem drop_set_ge (l : List Bool) (k : Nat) (x : Bool) : (l.set k x).drop (k + 1) = l.drop (k + 1) := by
  rw [List.drop_set_of_lt (by omega)]

def DivPost (n p q : Nat) (w : World) (e : Ending) (w' : World) : Prop :=
  ∃ v u Q R, e = .returned (.tuple #[v, u]) ∧ Q.length = n ∧ R.length = n ∧ wd Q = p ∧ wd R = q ∧ Bits w' v Q w.heap.size ∧ Bits w' u R w.heap.size ∧ Touch (fun _ => False) w w'

theorem Bld.drop0 (w : World) : w.ownsRow 0 4 1 (.slice Option.none 0 0) 0 [] := ⟨by simp, Or.inl ⟨rfl, rfl⟩⟩
/-- A copy of a list. -/
theorem copy_b {g cap n : Nat} {l : List Bool} {B : Nat} (h : Bits w (.slice (some ⟨g, 0, Option.none⟩) n cap) l B) (hn : n ≤ 1000) (h0 : 0 < n) :
    ∃ a' cap' w2, (Builtin.append_ #[40, 40] 40 #[.slice (some ⟨w.heap.size, 0, Option.none⟩) 0 0, .slice (some ⟨g, 0, Option.none⟩) n cap]).run Try.prog (w.alloc (.cells #[] 4)) = .ok (.slice a' n cap') w2 ∧ Bld w w2 a' n cap' l := by
  obtain ⟨g', cap1, cur, hv, hB, hg, hc⟩ := h
  simp only [Value.slice.injEq, Option.some.injEq, Addr.mk.injEq] at hv
  obtain ⟨⟨rfl, -⟩, rfl, rfl⟩ := hv
  have cells := fun i hi => bits_cell hg hc i hi
  obtain ⟨i, hi, hz, hs, hby⟩ := info_parts info4
  obtain ⟨v', w', hr, ho, hgr, hvv⟩ := run_append_own (P := Try.prog) (w.alloc (.cells #[] 4)) w.heap.size 40 40 4 i (.bool false) 1 1 Try.underlying40 hi hz hs hby rfl (by decide)
    (.slice (some ⟨w.heap.size, 0, Option.none⟩) 0 0) 0 [] (World.ownsRow_made w #[] 0 (Nat.le_refl _) (by simp [maxLen]) rfl) ⟨g, 0, Option.none⟩ l.length cap (bvals l) (by simp [bvals])
    (fun j u hu => by
      have hj : j < l.length := by
        have := (List.getElem?_eq_some_iff.1 hu).1
        simpa [bvals] using this
      have h1 := cells j hj
      have h2 : u = .bool (l.getD j false) := by
        simp only [bvals, List.getElem?_map, List.getElem?_eq_getElem hj, Option.map_some, Option.some.injEq] at hu
        rw [← hu, List.getD_eq_getElem?_getD, List.getElem?_eq_getElem hj]; rfl
      rw [h2, Addr.add_lit, Nat.zero_add, World.cell?_alloc_lt]
      · exact h1
      · exact World.block_lt_of_cell? w _ h1)
    (by intro u hu; simp only [bvals, List.mem_map] at hu; obtain ⟨z, _, rfl⟩ := hu; rfl) (by simp only [maxLen]; omega) (by omega) (by simp)
  simp only [List.nil_append, Nat.zero_add] at ho
  have t : Touch (fun _ => False) w w' := by
    have t2 : Touch (fun k => k = w.heap.size) (w.alloc (.cells #[] 4)) w' := Touch.grown hgr (fun k hk _ => by simpa [Value.ownBlock] using hk.symm)
    exact (Touch.alloc (fun _ => False) w _).trans' t2 (fun _ _ h => h) (fun i hi h => by omega)
  rcases ho.2 with ⟨hv, hn0⟩ | ⟨g3, c3, cur3, hv, hb3, hg3, r3⟩
  · omega
  · subst hv
    refine ⟨_, _, w', hr, ⟨ho.1, .inr ⟨g3, c3, cur3, rfl, Nat.zero_le _, hg3, r3⟩⟩, fun k hk => ?_, t⟩
    simp only [Value.ownBlock, Option.some.injEq] at hk
    omega
end Go.Proofs.Ytphhgmeokmemlaa
