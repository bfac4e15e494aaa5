/- ArenaRooms: the plain law: what the law's list of rooms and an arena have in common. -/
import Derived.Test.YtmjnoboeffajbaaAh
namespace Go.Proofs.Ytmjnoboeffajbaa
open Go.RowKit Go.Maps
set_option linter.unusedSimpArgs false
set_option linter.unusedVariables false

/-- A room, as the law tells it. -/
structure Rm where
  pos : Nat
  sz : Nat
  tk : Bool

/-- The last place ahead of k where there is such a room; below 0: nowhere. -/
def lastK (p : Rm → Bool) (l : List Rm) : Nat → Int
  | 0 => -1
  | k + 1 => if (l[k]?.map p).getD false then (k : Int) else lastK p l k
theorem lastK_range (p : Rm → Bool) (l : List Rm) : ∀ k, -1 ≤ lastK p l k ∧ lastK p l k < k
  | 0 => by simp [lastK]
  | k + 1 => by
    have := lastK_range p l k
    unfold lastK
    split <;> omega
theorem lastK_none {p : Rm → Bool} {l : List Rm} : ∀ {k}, lastK p l k < 0 → ∀ (i : Nat) (r : Rm), i < k → l[i]? = some r → p r = false
  | 0, _, i, r, hi, _ => by omega
  | k + 1, h, i, r, hi, hr => by
    unfold lastK at h
    split at h
    · omega
    · rename_i hn
      rcases Nat.lt_or_ge i k with hlt | hge
      · exact lastK_none h i r hlt hr
      · have : i = k := by omega
        subst this
        rw [hr] at hn
        simpa using hn
theorem lastK_some {p : Rm → Bool} {l : List Rm} : ∀ {k}, 0 ≤ lastK p l k → ∃ (i : Nat) (r : Rm), lastK p l k = (i : Int) ∧ i < k ∧ l[i]? = some r ∧ p r = true ∧ ∀ (j : Nat) (s : Rm), i < j → j < k → l[j]? = some s → p s = false
  | 0, h => by simp [lastK] at h
  | k + 1, h => by
    unfold lastK at h ⊢
    split at h
    · rename_i hp
      rw [if_pos hp]
      cases hk : l[k]? with
      | none => rw [hk] at hp; simp at hp
      | some r =>
        rw [hk] at hp
        exact ⟨k, r, rfl, by omega, hk, by simpa using hp, fun j s h1 h2 => by omega⟩
    · rename_i hp
      rw [if_neg hp]
      obtain ⟨i, r, e, hi, hr, hpr, hj⟩ := lastK_some h
      refine ⟨i, r, e, by omega, hr, hpr, fun j s h1 h2 hs => ?_⟩
      rcases Nat.lt_or_ge j k with hlt | hge
      · exact hj j s h1 hlt hs
      · have : j = k := by omega
        subst this
        rw [hs] at hp
        simpa using hp

def freeOf (c : Int) (r : Rm) : Bool := !r.tk && decide ((r.sz : Int) = c)
def takenAt (n : Int) (r : Rm) : Bool := r.tk && decide ((r.pos : Int) = n)

structure RInv (A : Ar) (l : List Rm) (i : Nat) : Prop where
  tk : ∀ x c : Int, A.taken x = some c ↔ ∃ r ∈ l, r.tk = true ∧ (r.pos : Int) = x ∧ (r.sz : Int) = c
  ro : ∀ c : Int, A.rooms c = (l.filter (freeOf c)).map (fun r => (r.pos : Int))
  nd : (l.map (·.pos)).Nodup
  len : l.length ≤ i
  lv : -(4194304 * (i : Int)) ≤ A.live ∧ A.live ≤ 4194304 * (i : Int)
  sz : ∀ r ∈ l, 16 ≤ r.sz ∧ r.pos + r.sz ≤ A.height ∧ r.sz ≤ 4194304

theorem RInv.fresh (n : Nat) : RInv (Ar.fresh n) [] 0 := ⟨fun x c => by simp [Ar.fresh], fun c => by simp [Ar.fresh], by simp, by simp, by simp [Ar.fresh], fun r hr => by cases hr⟩
theorem RInv.mono {A : Ar} {l : List Rm} {i : Nat} (h : RInv A l i) : RInv A l (i + 1) :=
  ⟨h.tk, h.ro, h.nd, Nat.le_succ_of_le h.len, by have := h.lv; omega, h.sz⟩

theorem nd_split {l1 l2 : List Rm} {r : Rm} (h : ((l1 ++ r :: l2).map (·.pos)).Nodup) : (∀ s ∈ l1, s.pos ≠ r.pos) ∧ (∀ s ∈ l2, s.pos ≠ r.pos) ∧ ((l1 ++ l2).map (·.pos)).Nodup := by
  simp only [List.map_append, List.map_cons, List.nodup_append, List.nodup_cons, List.mem_map, List.mem_cons] at h
  obtain ⟨h1, ⟨h2, h3⟩, h4⟩ := h
  refine ⟨fun s hs e => h4 s.pos ⟨s, hs, rfl⟩ r.pos (.inl rfl) e, fun s hs e => h2 ⟨s, hs, e⟩, ?_⟩
  simp only [List.map_append, List.nodup_append, List.mem_map]
  exact ⟨h1, h3, fun a ha b hb => h4 a ha b (.inr hb)⟩

theorem RInv.again {A : Ar} {l1 l2 : List Rm} {r : Rm} {i c : Nat} (h : RInv A (l1 ++ r :: l2) i) (hr : freeOf c r = true) (hl : ∀ s ∈ l2, freeOf c s = false) (hc : c ≤ 4194304) :
    A.rooms c = (l1.filter (freeOf c)).map (fun r => (r.pos : Int)) ++ [(r.pos : Int)] ∧
    RInv (({ A with rooms := setAt A.rooms c ((l1.filter (freeOf c)).map (fun r => (r.pos : Int))) } : Ar).took r.pos c) (l1 ++ { r with tk := true } :: l2) (i + 1) := by
  have hn2 : l2.filter (freeOf c) = [] := List.filter_eq_nil_iff.2 (fun s hs => by rw [hl s hs]; simp)
  have hf : r.tk = false ∧ r.sz = c := by simp [freeOf] at hr; exact ⟨hr.1, by omega⟩
  obtain ⟨n1, n2, n3⟩ := nd_split h.nd
  refine ⟨by rw [h.ro]; simp [List.filter_append, List.filter_cons, hr, hn2], ⟨?_, ?_, ?_, ?_, ?_, ?_⟩⟩
  · intro x c'
    show setAt A.taken (r.pos : Int) (some (c : Int)) x = some c' ↔ _
    by_cases hx : x = (r.pos : Int)
    · subst hx
      rw [setAt_same]
      constructor
      · intro e
        cases e
        exact ⟨{ r with tk := true }, by simp, rfl, rfl, by simp [hf.2]⟩
      · rintro ⟨s, hs, h1, h2, h3⟩
        simp only [List.mem_append, List.mem_cons] at hs
        rcases hs with hs | rfl | hs
        · exact absurd (by omega) (n1 s hs)
        · rw [← h3]; simp [hf.2]
        · exact absurd (by omega) (n2 s hs)
    · rw [setAt_ne _ _ _ _ hx, h.tk]
      constructor
      · rintro ⟨s, hs, h1, h2, h3⟩
        simp only [List.mem_append, List.mem_cons] at hs
        refine ⟨s, ?_, h1, h2, h3⟩
        simp only [List.mem_append, List.mem_cons]
        rcases hs with hs | rfl | hs
        · exact .inl hs
        · exact absurd h2.symm hx
        · exact .inr (.inr hs)
      · rintro ⟨s, hs, h1, h2, h3⟩
        simp only [List.mem_append, List.mem_cons] at hs
        refine ⟨s, ?_, h1, h2, h3⟩
        simp only [List.mem_append, List.mem_cons]
        rcases hs with hs | rfl | hs
        · exact .inl hs
        · exact absurd h2.symm hx
        · exact .inr (.inr hs)
  · intro c'
    show setAt A.rooms (c : Int) _ c' = _
    have hf2 : freeOf c' { r with tk := true } = false := by simp [freeOf]
    by_cases hx : c' = (c : Int)
    · subst hx
      rw [setAt_same]
      simp [List.filter_append, List.filter_cons, hf2, hn2]
    · rw [setAt_ne _ _ _ _ hx, h.ro]
      have hf3 : freeOf c' r = false := by simp [freeOf, hf.1, hf.2]; omega
      simp [List.filter_append, List.filter_cons, hf2, hf3]
  · have := h.nd
    simpa using this
  · have := h.len
    simp at this ⊢; omega
  · show _ ≤ A.live + (c : Int) ∧ A.live + (c : Int) ≤ _
    have := h.lv
    omega
  · intro s hs
    simp only [List.mem_append, List.mem_cons] at hs
    have hs' : ∃ t ∈ l1 ++ r :: l2, s.pos = t.pos ∧ s.sz = t.sz := by
      rcases hs with hs | rfl | hs
      · exact ⟨s, by simp [hs], rfl, rfl⟩
      · exact ⟨r, by simp, rfl, rfl⟩
      · exact ⟨s, by simp [hs], rfl, rfl⟩
    obtain ⟨t, ht, e1, e2⟩ := hs'
    have := h.sz t ht
    show 16 ≤ s.sz ∧ s.pos + s.sz ≤ A.height ∧ _
    omega

theorem RInv.cut {A : Ar} {l : List Rm} {i c : Nat} (h : RInv A l i) (h16 : 16 ≤ c) (hc : c ≤ 4194304) :
    RInv (({ A with height := A.height + c } : Ar).took A.height c) (l ++ [⟨A.height, c, true⟩]) (i + 1) := by
  have hp : ∀ s ∈ l, s.pos < A.height := fun s hs => by have := h.sz s hs; omega
  refine ⟨?_, ?_, ?_, ?_, ?_, ?_⟩
  · intro x c'
    show setAt A.taken (A.height : Int) (some (c : Int)) x = some c' ↔ _
    by_cases hx : x = (A.height : Int)
    · subst hx
      rw [setAt_same]
      constructor
      · intro e
        cases e
        exact ⟨⟨A.height, c, true⟩, by simp, rfl, rfl, rfl⟩
      · rintro ⟨s, hs, h1, h2, h3⟩
        simp only [List.mem_append, List.mem_singleton] at hs
        rcases hs with hs | rfl
        · have := hp s hs; omega
        · rw [← h3]
    · rw [setAt_ne _ _ _ _ hx, h.tk]
      constructor
      · rintro ⟨s, hs, h1, h2, h3⟩
        exact ⟨s, by simp [hs], h1, h2, h3⟩
      · rintro ⟨s, hs, h1, h2, h3⟩
        simp only [List.mem_append, List.mem_singleton] at hs
        rcases hs with hs | rfl
        · exact ⟨s, hs, h1, h2, h3⟩
        · exact absurd h2.symm hx
  · intro c'
    show A.rooms c' = _
    rw [h.ro]
    simp [List.filter_append, freeOf]
  · rw [List.map_append, List.nodup_append]
    refine ⟨h.nd, by simp, fun a ha b hb => ?_⟩
    simp only [List.mem_map] at ha
    obtain ⟨s, hs, rfl⟩ := ha
    simp at hb
    have := hp s hs
    omega
  · have := h.len
    simp; omega
  · show _ ≤ A.live + (c : Int) ∧ A.live + (c : Int) ≤ _
    have := h.lv
    omega
  · intro s hs
    show 16 ≤ s.sz ∧ s.pos + s.sz ≤ A.height + c ∧ _
    simp only [List.mem_append, List.mem_singleton] at hs
    rcases hs with hs | rfl
    · have := h.sz s hs; omega
    · exact ⟨h16, Nat.le_refl _, hc⟩

theorem RInv.give {A : Ar} {l1 l2 : List Rm} {r : Rm} {i : Nat} (h : RInv A (l1 ++ r :: l2) i) (hr : r.tk = true) :
    A.taken r.pos = some (r.sz : Int) ∧ RInv (A.gave r.pos r.sz) (l1 ++ l2 ++ [{ r with tk := false }]) (i + 1) := by
  obtain ⟨n1, n2, n3⟩ := nd_split h.nd
  have hsz := h.sz r (by simp)
  refine ⟨(h.tk _ _).2 ⟨r, by simp, hr, rfl, rfl⟩, ⟨?_, ?_, ?_, ?_, ?_, ?_⟩⟩
  · intro x c'
    show setAt A.taken (r.pos : Int) Option.none x = some c' ↔ _
    by_cases hx : x = (r.pos : Int)
    · subst hx
      rw [setAt_same]
      constructor
      · intro e; cases e
      · rintro ⟨s, hs, h1, h2, h3⟩
        simp only [List.mem_append, List.mem_singleton] at hs
        rcases hs with (hs | hs) | rfl
        · exact absurd (by omega) (n1 s hs)
        · exact absurd (by omega) (n2 s hs)
        · cases h1
    · rw [setAt_ne _ _ _ _ hx, h.tk]
      constructor
      · rintro ⟨s, hs, h1, h2, h3⟩
        simp only [List.mem_append, List.mem_cons] at hs
        refine ⟨s, ?_, h1, h2, h3⟩
        simp only [List.mem_append, List.mem_singleton]
        rcases hs with hs | rfl | hs
        · exact .inl (.inl hs)
        · exact absurd h2.symm hx
        · exact .inl (.inr hs)
      · rintro ⟨s, hs, h1, h2, h3⟩
        simp only [List.mem_append, List.mem_singleton] at hs
        refine ⟨s, ?_, h1, h2, h3⟩
        simp only [List.mem_append, List.mem_cons]
        rcases hs with (hs | hs) | rfl
        · exact .inl hs
        · exact .inr (.inr hs)
        · cases h1
  · intro c'
    show setAt A.rooms (r.sz : Int) (A.rooms r.sz ++ [(r.pos : Int)]) c' = _
    have hf1 : ∀ c, freeOf c r = false := fun c => by simp [freeOf, hr]
    by_cases hx : c' = (r.sz : Int)
    · subst hx
      rw [setAt_same, h.ro]
      have hf2 : freeOf r.sz { r with tk := false } = true := by simp [freeOf]
      simp [List.filter_append, List.filter_cons, hf1, hf2]
    · rw [setAt_ne _ _ _ _ hx, h.ro]
      have hf2 : freeOf c' { r with tk := false } = false := by simp [freeOf]; omega
      simp [List.filter_append, List.filter_cons, hf1, hf2]
  · rw [List.map_append, List.nodup_append]
    refine ⟨n3, by simp, fun a ha b hb => ?_⟩
    simp only [List.mem_map, List.mem_append] at ha
    obtain ⟨s, hs, rfl⟩ := ha
    simp at hb
    subst hb
    rcases hs with hs | hs
    · exact n1 s hs
    · exact n2 s hs
  · have := h.len
    simp at this ⊢; omega
  · show _ ≤ A.live - (r.sz : Int) ∧ A.live - (r.sz : Int) ≤ _
    have := h.lv
    omega
  · intro s hs
    simp only [List.mem_append, List.mem_singleton] at hs
    have hs' : ∃ t ∈ l1 ++ r :: l2, s.pos = t.pos ∧ s.sz = t.sz := by
      rcases hs with (hs | hs) | rfl
      · exact ⟨s, by simp [hs], rfl, rfl⟩
      · exact ⟨s, by simp [hs], rfl, rfl⟩
      · exact ⟨r, by simp, rfl, rfl⟩
    obtain ⟨t, ht, e1, e2⟩ := hs'
    have := h.sz t ht
    show 16 ≤ s.sz ∧ s.pos + s.sz ≤ A.height ∧ _
    omega
theorem list_split {l : List Rm} {i : Nat} {r : Rm} (h : l[i]? = some r) : l = l.take i ++ r :: l.drop (i + 1) := by
  have hi := (List.getElem?_eq_some_iff.1 h).1
  have e := (List.getElem?_eq_some_iff.1 h).2
  conv => lhs; rw [← List.take_append_drop i l, List.drop_eq_getElem_cons hi, e]
theorem list_set {l : List Rm} {i : Nat} {r s : Rm} (h : l[i]? = some r) : l.set i s = l.take i ++ s :: l.drop (i + 1) := by
  have hi := (List.getElem?_eq_some_iff.1 h).1
  rw [List.set_eq_take_append_cons_drop, if_pos hi]
theorem mem_drop {l : List Rm} {i : Nat} {s : Rm} (h : s ∈ l.drop (i + 1)) : ∃ j, i < j ∧ j < l.length ∧ l[j]? = some s := by
  obtain ⟨k, hk, e⟩ := List.mem_iff_getElem.1 h
  simp at hk
  refine ⟨i + 1 + k, by omega, by omega, ?_⟩
  rw [List.getElem?_eq_getElem (by omega), ← e]
  simp
theorem RInv.norooms {A : Ar} {l : List Rm} {i : Nat} (h : RInv A l i) {c : Int} (hk : lastK (freeOf c) l l.length < 0) : A.rooms c = [] := by
  rw [h.ro]
  have : l.filter (freeOf c) = [] := List.filter_eq_nil_iff.2 (fun s hs => by
    obtain ⟨k, hk', e⟩ := List.mem_iff_getElem.1 hs
    rw [lastK_none hk k s hk' (by rw [List.getElem?_eq_getElem hk', e])]
    simp)
  rw [this]; rfl
theorem RInv.none {A : Ar} {l : List Rm} {i : Nat} (h : RInv A l i) {n : Int} (hk : lastK (takenAt n) l l.length < 0) : A.taken n = Option.none := by
  cases e : A.taken n with
  | none => rfl
  | some c =>
    obtain ⟨s, hs, h1, h2, h3⟩ := (h.tk _ _).1 e
    obtain ⟨k, hk', e'⟩ := List.mem_iff_getElem.1 hs
    have := lastK_none hk k s hk' (by rw [List.getElem?_eq_getElem hk', e'])
    simp [takenAt, h1, h2] at this
end Go.Proofs.Ytmjnoboeffajbaa
