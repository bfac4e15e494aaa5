/- Rooms that are taken don't meet: the plain law, over the plain record of an arena. -/
import Derived.Test.YtmjnoboeffajbaaAo
import Derived.Test.YtmjnoboeffajbaaAr
import Derived.Test.YtmjnoboeffajbaaSa
namespace Go.Proofs.Ytmjnoboeffajbaa
open Go.RowKit Go.Maps
set_option linter.unusedSimpArgs false
set_option linter.unusedVariables false

def Cl (c : Nat) : Prop := c = 16 ∨ c = 32 ∨ c = 64 ∨ c = 128 ∨ c = 256
theorem cls_fin : ∀ n : Fin 256, cls ((n.val : Nat) : Int) = 16 ∨ cls ((n.val : Nat) : Int) = 32 ∨ cls ((n.val : Nat) : Int) = 64 ∨ cls ((n.val : Nat) : Int) = 128 ∨ cls ((n.val : Nat) : Int) = 256 := by decide +kernel
theorem cls_cl {z : Int} (h0 : 0 ≤ z) (h1 : z ≤ 255) : Cl (cls z) := by
  obtain ⟨n, rfl⟩ := Int.eq_ofNat_of_zero_le h0
  exact cls_fin ⟨n, by omega⟩
theorem cls_idem {c : Nat} (h : Cl c) : cls (c : Int) = c := by
  rcases h with rfl | rfl | rfl | rfl | rfl <;> decide +kernel
theorem Cl.bnd {c : Nat} (h : Cl c) : 16 ≤ c ∧ c ≤ 256 := by
  rcases h with rfl | rfl | rfl | rfl | rfl <;> decide

abbrev Rooms := List (Nat × Nat)
structure Apt (A : Ar) (L : Rooms) : Prop where
  rooms : ∀ c, A.rooms c = []
  taken : ∀ z ∈ L, A.taken (z.1 : Int) = some (z.2 : Int)
  top : ∀ z ∈ L, z.1 + z.2 ≤ A.height
  live0 : 0 ≤ A.live
  live1 : A.live ≤ A.height
  cl : ∀ z ∈ L, Cl z.2
  n : A.n = 6000
/-- Each room has its own bytes. -/
def Full (b : List Int) (L : Rooms) : Prop := ∀ i z, L[i]? = some z → (b.drop z.1).take z.2 = List.replicate z.2 (((i + 1 : Nat) : Int))

theorem over_seg_ne {b l : List Int} {x n y : Nat} (hx : x + l.length ≤ b.length) (h : y + n ≤ x ∨ x + l.length ≤ y) : ((over b x l).drop y).take n = (b.drop y).take n := by
  apply List.ext_getElem?
  intro i
  simp only [List.getElem?_take, List.getElem?_drop]
  by_cases hi : i < n
  · simp only [hi, if_true]
    exact over_get hx _ (by omega)
  · simp [hi]
theorem over_seg_same {b l : List Int} {x : Nat} (hx : x + l.length ≤ b.length) : ((over b x l).drop x).take l.length = l := by
  have hlx : (b.take x).length = x := by simp; omega
  simp only [over]
  rw [List.drop_append_of_le_length (by omega), List.drop_of_length_le (by omega), List.nil_append, List.take_append_of_le_length (Nat.le_refl _), List.take_of_length_le (Nat.le_refl _)]

theorem Apt.fresh : Apt (Ar.fresh 6000) [] := ⟨fun _ => rfl, fun z h => (by cases h), fun z h => (by cases h), Int.le_refl _, Int.le_refl _, fun z h => (by cases h), rfl⟩
theorem Full.nil (b : List Int) : Full b [] := fun i z h => by simp at h

theorem Apt.next {A : Ar} {L : Rooms} (h : Apt A L) (c : Nat) (hc : Cl c) (b' : List Int) : Apt { (({ A with height := A.height + c } : Ar).took A.height c) with b := b' } (L ++ [(A.height, c)]) where
  rooms := h.rooms
  taken := by
    intro z hz
    have hb := hc.bnd
    rcases List.mem_append.1 hz with hz | hz
    · show setAt A.taken _ _ (z.1 : Int) = _
      have := h.top z hz
      have := (h.cl z hz).bnd
      rw [setAt_ne _ _ _ _ (by omega)]
      exact h.taken z hz
    · simp only [List.mem_singleton] at hz; subst hz
      exact setAt_same _ _ _
  top := by
    intro z hz
    show z.1 + z.2 ≤ A.height + c
    rcases List.mem_append.1 hz with hz | hz
    · have := h.top z hz; omega
    · simp only [List.mem_singleton] at hz; subst hz; exact Nat.le_refl _
  live0 := by
    show 0 ≤ A.live + c
    have := h.live0; omega
  live1 := by
    show A.live + c ≤ ((A.height + c : Nat) : Int)
    have := h.live1; omega
  cl := by
    intro z hz
    rcases List.mem_append.1 hz with hz | hz
    · exact h.cl z hz
    · simp only [List.mem_singleton] at hz; subst hz; exact hc
  n := h.n

theorem Full.next {A : Ar} {L : Rooms} (h : Full A.b L) (ht : ∀ z ∈ L, z.1 + z.2 ≤ A.height) (c : Nat) (hb : A.height + c ≤ A.b.length) (v : Int) (hv : v = ((L.length + 1 : Nat) : Int)) :
    Full (over (over A.b A.height (zeros c)) A.height (List.replicate c v)) (L ++ [(A.height, c)]) := by
  intro i z hz
  have hz1 : (zeros c).length = c := by simp [zeros]
  have l1 : (over A.b A.height (zeros c)).length = A.b.length := length_over (by rw [hz1]; exact hb)
  by_cases hi : i < L.length
  · rw [List.getElem?_append_left hi] at hz
    have hm := List.mem_of_getElem? hz
    have := ht z hm
    rw [over_seg_ne (by rw [l1]; simpa using hb) (.inl this), over_seg_ne (by rw [hz1]; exact hb) (.inl this)]
    exact h i z hz
  · rw [List.getElem?_append_right (by omega)] at hz
    have h0 : i - L.length = 0 := by
      have := (List.getElem?_eq_some_iff.1 hz).1
      simpa using this
    rw [h0] at hz
    simp at hz
    subst hz
    have e := over_seg_same (b := over A.b A.height (zeros c)) (l := List.replicate c v) (x := A.height) (by rw [l1]; simpa using hb)
    rw [List.length_replicate] at e
    rw [e, hv, show i = L.length by omega]

/-- Given back and taken again. -/
theorem Apt.again {A : Ar} {L : Rooms} (h : Apt A L) {z : Nat × Nat} (hz : z ∈ L) (b' : List Int) :
    Apt { (({ (A.gave (z.1 : Int) (z.2 : Int)) with rooms := setAt (A.gave (z.1 : Int) (z.2 : Int)).rooms (z.2 : Int) [] } : Ar).took z.1 z.2) with b := b' } L where
  rooms := by
    intro c
    show setAt (setAt A.rooms (z.2 : Int) (A.rooms z.2 ++ [(z.1 : Int)])) (z.2 : Int) [] c = []
    by_cases hc : c = (z.2 : Int)
    · subst hc; exact setAt_same _ _ _
    · rw [setAt_ne _ _ _ _ hc, setAt_ne _ _ _ _ hc]; exact h.rooms c
  taken := by
    intro y hy
    show setAt (setAt A.taken (z.1 : Int) Option.none) (z.1 : Int) (some (z.2 : Int)) (y.1 : Int) = _
    have e1 := h.taken y hy
    have e2 := h.taken z hz
    by_cases hc : (y.1 : Int) = (z.1 : Int)
    · rw [hc, setAt_same, ← e2, ← hc, e1]
    · rw [setAt_ne _ _ _ _ hc, setAt_ne _ _ _ _ hc]; exact e1
  top := h.top
  live0 := by
    show 0 ≤ A.live - (z.2 : Int) + (z.2 : Int)
    have := h.live0; omega
  live1 := by
    show A.live - (z.2 : Int) + (z.2 : Int) ≤ A.height
    have := h.live1; omega
  cl := h.cl
  n := h.n

theorem fill_set (c k : Nat) (v : Int) (h : k < c) : (List.replicate k v ++ zeros (c - k)).set k v = List.replicate (k + 1) v ++ zeros (c - (k + 1)) := by
  apply List.ext_getElem?
  intro i
  simp only [zeros, List.getElem?_set, List.length_append, List.length_replicate, List.getElem?_append, List.getElem?_replicate]
  by_cases h1 : i = k
  · subst h1
    have : i < i + (c - i) := by omega
    simp [this]
  · have h1' : ¬ k = i := fun e => h1 e.symm
    simp only [h1', if_false]
    by_cases h2 : i < k
    · have : i < k + 1 := by omega
      simp [h2, this]
    · have h3 : ¬ i < k + 1 := by omega
      simp only [h2, h3, if_false]
      by_cases h4 : i - k < c - k
      · have : i - (k + 1) < c - (k + 1) := by omega
        simp [h4, this]
      · have : ¬ i - (k + 1) < c - (k + 1) := by omega
        simp [h4, this]
end Go.Proofs.Ytmjnoboeffajbaa
