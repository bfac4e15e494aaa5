/- BlockPlays: the law's own pages, a store that is played with: the plain law. -/
import Derived.Test.YtaeicondmiikaaaB6
namespace Go.Proofs.Ytaeicondmiikaaa
open Go.RowKit Go.Maps
set_option linter.unusedSimpArgs false
set_option linter.unusedVariables false

/-- How an element lies in memory. -/
structure El (E : Type) where
  ce : E → List Value
  K : Nat
  len : ∀ x, (ce x).length = K
variable {E : Type}
def El.fl (e : El E) (m : List E) : List Value := m.flatMap e.ce
namespace El
variable (e : El E)
theorem fl_nil : e.fl [] = [] := rfl
theorem fl_append (l m : List E) : e.fl (l ++ m) = e.fl l ++ e.fl m := by simp [fl]
theorem fl_cons (x : E) (m : List E) : e.fl (x :: m) = e.ce x ++ e.fl m := by simp [fl]
theorem fl_length (m : List E) : (e.fl m).length = m.length * e.K := by
  induction m with
  | nil => simp [fl]
  | cons x r ih => rw [fl_cons, List.length_append, e.len, ih, List.length_cons, Nat.add_mul, Nat.one_mul, Nat.add_comm]
theorem fl_get {m : List E} {i : Nat} {x : E} (hi : m[i]? = some x) {f : Nat} (hf : f < e.K) : (e.fl m)[i * e.K + f]? = (e.ce x)[f]? := by
  induction m generalizing i with
  | nil => simp at hi
  | cons y r ih =>
    rw [fl_cons]
    cases i with
    | zero =>
      simp only [List.getElem?_cons_zero, Option.some.injEq] at hi
      subst hi
      rw [Nat.zero_mul, Nat.zero_add, List.getElem?_append_left (by rw [e.len]; exact hf)]
    | succ k =>
      simp only [List.getElem?_cons_succ] at hi
      rw [List.getElem?_append_right (by rw [e.len, Nat.add_mul]; omega), e.len, show (k + 1) * e.K + f - e.K = k * e.K + f by rw [Nat.add_mul]; omega]
      exact ih hi
theorem fl_set {m : List E} {i : Nat} {x y : E} (hi : m[i]? = some x) {f : Nat} (hf : f < e.K) {u : Value} (hy : e.ce y = (e.ce x).set f u) : (e.fl m).set (i * e.K + f) u = e.fl (m.set i y) := by
  induction m generalizing i with
  | nil => simp at hi
  | cons v r ih =>
    cases i with
    | zero =>
      simp only [List.getElem?_cons_zero, Option.some.injEq] at hi
      subst hi
      rw [List.set_cons_zero, fl_cons, fl_cons, hy, Nat.zero_mul, Nat.zero_add, List.set_append_left _ _ (by rw [e.len]; exact hf)]
    | succ k =>
      simp only [List.getElem?_cons_succ] at hi
      rw [List.set_cons_succ, fl_cons, fl_cons, List.set_append_right _ _ (by rw [e.len, Nat.add_mul]; omega), e.len, show (k + 1) * e.K + f - e.K = k * e.K + f by rw [Nat.add_mul]; omega, ih hi]
end El

structure Pg where
  used : Bool
  of : Nat
@[reducible] def PE : El Pg where
  ce x := [.bool x.used, .int .u8 x.of]
  K := 2
  len _ := rfl

/-- The law's own pages lie in a block. -/
def PRow (w : World) (g : Nat) (l : List Pg) : Prop := w.heap[g]? = some (.cells (PE.fl l).toArray 44 (0, 0))
theorem PRow.cell {w : World} {g : Nat} {l : List Pg} (h : PRow w g l) {i : Nat} {x : Pg} (hi : l[i]? = some x) (f : Nat) (hf : f < 2) : w.cell? ⟨g, i * 2 + f, Option.none⟩ = (PE.ce x)[f]? := by
  rw [cell_of_row _ _ _ _ _ _ h]
  have := PE.fl_get hi hf
  simpa using this
theorem PRow.fz {w : World} {g : Nat} {l : List Pg} (h : PRow w g l) (j : Nat) : w.frozen? ⟨g, j, Option.none⟩ = false := by unfold World.frozen?; rw [show w.heap[g]? = _ from h]; simp
theorem PRow.stored {w : World} {g : Nat} {l : List Pg} (h : PRow w g l) {i : Nat} {x y : Pg} (hi : l[i]? = some x) {f : Nat} (hf : f < 2) {u : Value} (hy : PE.ce y = (PE.ce x).set f u) : PRow (w.setCell ⟨g, i * 2 + f, Option.none⟩ u) g (l.set i y) := by
  have hs := PE.fl_set hi hf hy
  unfold PRow
  rw [← hs]
  have h' : w.heap[g]? = some (.cells (PE.fl l).toArray 44 (0, 0)) := h
  simp [World.setCell, Array.getElem?_modify, h']

structure BInv (S : St) (l : List Pg) (size i : Nat) : Prop where
  key : ∀ y ∈ S.m, ∃ j v : Nat, j < l.length ∧ y.1 = (j : Int) ∧ l[j]? = some ⟨true, v⟩ ∧ y.2.2 = List.replicate size (v : Int)
  use : ∀ j v : Nat, l[j]? = some ⟨true, v⟩ → (j : Int) ∈ S.m.map (·.1)
  len : S.m.length ≤ i
  ops : S.ops ≤ i
theorem BInv.did {S : St} {l : List Pg} {size i : Nat} (h : BInv S l size i) : BInv S.did l size (i + 1) := ⟨h.key, h.use, Nat.le_succ_of_le h.len, Nat.succ_le_succ h.ops⟩
theorem BInv.mono {S : St} {l : List Pg} {size i : Nat} (h : BInv S l size i) : BInv S l size (i + 1) := ⟨h.key, h.use, Nat.le_succ_of_le h.len, Nat.le_succ_of_le h.ops⟩
theorem set_ne {l : List Pg} {i j : Nat} {x : Pg} (h : i ≠ j) : (l.set i x)[j]? = l[j]? := by rw [List.getElem?_set, if_neg h]
theorem set_same {l : List Pg} {i : Nat} {x : Pg} (h : i < l.length) : (l.set i x)[i]? = some x := by rw [List.getElem?_set, if_pos rfl, if_pos h]
/-- What is unused is none of the store's. -/
theorem BInv.absent {S : St} {l : List Pg} {size i : Nat} (h : BInv S l size i) {id : Int} (hid : id < 0 ∨ (l.length : Int) ≤ id ∨ ∃ j v : Nat, id = (j : Int) ∧ l[j]? = some ⟨false, v⟩) : id ∉ S.m.map (·.1) := by
  intro hm
  obtain ⟨y, hy, e⟩ := List.mem_map.1 hm
  obtain ⟨j, v, hj, h1, h2, _⟩ := h.key y hy
  rw [h1] at e
  rcases hid with hid | hid | ⟨j', v', h3, h4⟩
  · omega
  · omega
  · have : j = j' := by omega
    subst this
    rw [h2] at h4
    cases h4
theorem BInv.there {S : St} {l : List Pg} {size i : Nat} (h : BInv S l size i) {j v : Nat} (hj : l[j]? = some ⟨true, v⟩) : ∃ y ∈ S.m, y.1 = (j : Int) ∧ y.2.2 = List.replicate size (v : Int) := by
  obtain ⟨y, hy, e⟩ := List.mem_map.1 (h.use j v hj)
  obtain ⟨j', v', _, h1, h2, h3⟩ := h.key y hy
  have : j' = j := by omega
  subst this
  rw [hj] at h2
  cases h2
  exact ⟨y, hy, h1, h3⟩
/-- A free number: the first unused page. -/
theorem BInv.free {S : St} {l : List Pg} {size i id : Nat} (h : BInv S l size i) (hf : Free S id) (hl : S.m.length < l.length) : (∀ j, j < id → ∃ v, l[j]? = some ⟨true, v⟩) ∧ ∃ v, l[id]? = some ⟨false, v⟩ := by
  have hid : id ≤ (S.m.map (·.1)).length := below_len hf.2
  rw [List.length_map] at hid
  refine ⟨fun j hj => ?_, ?_⟩
  · obtain ⟨y, hy, e⟩ := List.mem_map.1 (hf.2 j hj)
    obtain ⟨j', v, _, h1, h2, _⟩ := h.key y hy
    have : j' = j := by omega
    subst this
    exact ⟨v, h2⟩
  · obtain ⟨⟨u, v⟩, hx⟩ : ∃ x, l[id]? = some x := ⟨_, List.getElem?_eq_getElem (by omega)⟩
    cases u with
    | false => exact ⟨v, hx⟩
    | true => exact absurd (h.use id v hx) hf.1
theorem BInv.took {S : St} {l : List Pg} {size i id blk : Nat} (h : BInv S l size i) (hs : S.size = size) (hf : Free S id) (hl : S.m.length < l.length) : BInv (S.did.took id blk) (l.set id ⟨true, 0⟩) size (i + 1) := by
  have hid : id ≤ (S.m.map (·.1)).length := below_len hf.2
  rw [List.length_map] at hid
  refine ⟨?_, ?_, ?_, Nat.succ_le_succ h.ops⟩
  · intro y hy
    rcases List.mem_append.1 (show y ∈ S.m ++ [((id : Int), blk, zeros S.size)] from hy) with hy | hy
    · obtain ⟨j, v, hj, h1, h2, h3⟩ := h.key y hy
      have : id ≠ j := by
        rintro rfl
        exact hf.1 (List.mem_map.2 ⟨y, hy, h1⟩)
      exact ⟨j, v, by simpa using hj, h1, by rw [set_ne this]; exact h2, h3⟩
    · rw [List.mem_singleton.1 hy]
      exact ⟨id, 0, by simp; omega, rfl, set_same (by omega), by rw [hs]; rfl⟩
  · intro j v hj
    show (j : Int) ∈ (S.m ++ [((id : Int), blk, zeros S.size)]).map (·.1)
    rw [List.map_append]
    by_cases e : id = j
    · subst e; simp
    · rw [set_ne e] at hj
      exact List.mem_append_left _ (h.use j v hj)
  · show (S.m ++ [_]).length ≤ i + 1
    have := h.len
    simp; omega
theorem BInv.gave {S : St} {l : List Pg} {size i j v : Nat} (h : BInv S l size i) (hj : l[j]? = some ⟨true, v⟩) : BInv (S.did.gave (j : Int)) (l.set j ⟨false, 0⟩) size (i + 1) := by
  have hjl := (List.getElem?_eq_some_iff.1 hj).1
  refine ⟨?_, ?_, ?_, Nat.succ_le_succ h.ops⟩
  · intro y hy
    have hy' : y ∈ S.m ∧ y.1 ≠ (j : Int) := by simpa [St.gave, St.did] using hy
    obtain ⟨j', v', hj', h1, h2, h3⟩ := h.key y hy'.1
    have : j ≠ j' := by
      rintro rfl
      exact hy'.2 h1
    exact ⟨j', v', by simpa using hj', h1, by rw [set_ne this]; exact h2, h3⟩
  · intro j' v' hj'
    by_cases e : j = j'
    · subst e
      rw [set_same hjl] at hj'
      cases hj'
    · rw [set_ne e] at hj'
      obtain ⟨y, hy, e1⟩ := List.mem_map.1 (h.use j' v' hj')
      refine List.mem_map.2 ⟨y, ?_, e1⟩
      simp [St.gave, St.did, hy, e1]
      omega
  · have h1 : (S.did.gave (j : Int)).m.length ≤ S.m.length := List.length_filter_le _ _
    have := h.len
    omega
theorem BInv.wrote {S : St} {l : List Pg} {size i j v v' : Nat} (h : BInv S l size i) (hj : l[j]? = some ⟨true, v⟩) : BInv (S.did.wrote (j : Int) (List.replicate size (v' : Int))) (l.set j ⟨true, v'⟩) size (i + 1) := by
  have hjl := (List.getElem?_eq_some_iff.1 hj).1
  have hk := wrote_keys S.did (j : Int) (List.replicate size (v' : Int))
  refine ⟨?_, ?_, ?_, Nat.succ_le_succ h.ops⟩
  · intro y hy
    obtain ⟨x, hx, rfl⟩ := List.mem_map.1 (show y ∈ S.m.map _ from hy)
    obtain ⟨j', v2, hj', h1, h2, h3⟩ := h.key x hx
    by_cases e : j = j'
    · subst e
      rw [if_pos (by simp [h1])]
      exact ⟨j, v', by simpa using hj', h1, set_same hjl, rfl⟩
    · rw [if_neg (by simp [h1]; omega)]
      exact ⟨j', v2, by simpa using hj', h1, by rw [set_ne e]; exact h2, h3⟩
  · intro j' v2 hj'
    rw [hk]
    by_cases e : j = j'
    · subst e
      exact h.use j v hj
    · rw [set_ne e] at hj'
      exact h.use j' v2 hj'
  · show (S.m.map _).length ≤ i + 1
    have := h.len
    simp; omega
theorem gave_len {S : St} {l : List Pg} {size i j v : Nat} (h : BInv S l size i) (hk : (S.m.map (·.1)).Nodup) (hj : l[j]? = some ⟨true, v⟩) : ((S.did.gave (j : Int)).m.length : Int) = (S.m.length : Int) - 1 := by
  have hm := h.use j v hj
  have key : ∀ (m : List (Int × Nat × List Int)), (m.map (·.1)).Nodup → (j : Int) ∈ m.map (·.1) → (m.filter fun x => !(x.1 == (j : Int))).length + 1 = m.length := by
    intro m
    induction m with
    | nil => intro _ h; simp at h
    | cons x r ih =>
      intro hn hm
      simp only [List.map_cons, List.nodup_cons, List.mem_cons] at hn hm
      by_cases e : x.1 = (j : Int)
      · have hr : r.filter (fun x => !(x.1 == (j : Int))) = r := List.filter_eq_self.2 (fun y hy => by
          have : y.1 ≠ (j : Int) := fun e' => hn.1 (by rw [e, ← e']; exact List.mem_map.2 ⟨y, hy, rfl⟩)
          simp [this])
        simp [List.filter_cons, e, hr]
      · have := ih hn.2 (hm.resolve_left (fun e' => e e'.symm))
        simp [List.filter_cons, e]
        omega
  have := key S.m hk hm
  show ((S.m.filter fun x => !(x.1 == (j : Int))).length : Int) = _
  omega
end Go.Proofs.Ytaeicondmiikaaa
