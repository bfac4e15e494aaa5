/- The plain law behind ArenaAgain: rooms given back in any order and taken again leave the height and what is taken as they were. No program is in sight but the plain record of an arena. -/
import Derived.Test.YtmjnoboeffajbaaAh
namespace Go.Proofs.Ytmjnoboeffajbaa
open Go.RowKit Go.Maps
set_option linter.unusedSimpArgs false
set_option linter.unusedVariables false

theorem clsFrom_cap2 : ∀ (k g c n : Nat), n ≤ c * 2 ^ k → clsFrom g c n ≤ c * 2 ^ k
  | k, 0, c, n, h => by
    simp only [clsFrom]
    have := Nat.two_pow_pos k
    exact Nat.le_mul_of_pos_right _ this
  | 0, g + 1, c, n, h => by
    unfold clsFrom
    rw [if_neg (by simpa using h)]; simp
  | k + 1, g + 1, c, n, h => by
    unfold clsFrom
    have e : c * 2 ^ (k + 1) = 2 * c * 2 ^ k := by rw [Nat.pow_succ, Nat.mul_comm 2 c, Nat.mul_assoc, Nat.mul_comm 2]
    split
    · rw [e]; exact clsFrom_cap2 k g (2 * c) n (by rw [← e]; exact h)
    · exact Nat.le_mul_of_pos_right _ (Nat.two_pow_pos _)
theorem cls_byte {n : Int} (h : n ≤ 255) : cls n ≤ 256 := clsFrom_cap2 4 18 16 n.toNat (by omega)

abbrev Places := List (Int × Int)
def tk (A : Ar) (L : Places) : Places := L.filter fun z => (A.taken z.1).isSome
def cnt (c : Int) (L : Places) : Nat := (L.filter fun z => z.2 == c).length
def total (L : Places) : Int := (L.map (·.2)).sum

theorem cnt_append (c : Int) (L M : Places) : cnt c (L ++ M) = cnt c L + cnt c M := by simp [cnt]
theorem total_append (L M : Places) : total (L ++ M) = total L + total M := by simp [total]
theorem cnt_cons (c : Int) (z : Int × Int) (L : Places) : cnt c (z :: L) = (if z.2 = c then 1 else 0) + cnt c L := by
  unfold cnt
  by_cases h : z.2 = c
  · simp [h]; omega
  · have : (z.2 == c) = false := by simpa using h
    simp [h, this]
theorem total_cons (z : Int × Int) (L : Places) : total (z :: L) = z.2 + total L := by simp [total]

theorem less_one : ∀ (T : Places) (z : Int × Int), (T.map (·.1)).Nodup → z ∈ T → (∀ c, cnt c (T.filter fun y => !(y.1 == z.1)) + (if z.2 = c then 1 else 0) = cnt c T) ∧ total (T.filter fun y => !(y.1 == z.1)) + z.2 = total T
  | [], z, _, h => by cases h
  | y :: r, z, hn, h => by
    simp only [List.map_cons, List.nodup_cons] at hn
    by_cases hyz : y.1 = z.1
    · have hr : r.filter (fun y => !(y.1 == z.1)) = r := by
        rw [List.filter_eq_self]
        intro x hx
        have : ¬ x.1 = z.1 := fun e => hn.1 (List.mem_map.2 ⟨x, hx, by rw [e, hyz]⟩)
        simpa using this
      have hzy : z = y := by
        rcases List.mem_cons.1 h with h | h
        · exact h
        · exact absurd (List.mem_map.2 ⟨z, h, hyz.symm⟩) hn.1
      subst hzy
      simp only [List.filter_cons, beq_self_eq_true, Bool.not_true, hr]
      exact ⟨fun c => by simp only [cnt_cons]; simp; omega, by simp only [total_cons]; simp; omega⟩
    · have hz : z ∈ r := by
        rcases List.mem_cons.1 h with h | h
        · exact absurd (by rw [h]) hyz
        · exact h
      obtain ⟨h1, h2⟩ := less_one r z hn.2 hz
      have hb : (y.1 == z.1) = false := by simpa using hyz
      simp only [List.filter_cons, hb, Bool.not_false, if_true]
      exact ⟨fun c => by have := h1 c; simp only [cnt_cons]; omega, by simp only [total_cons]; omega⟩

theorem total_bound : ∀ (L : Places), (∀ z ∈ L, 16 ≤ z.2 ∧ z.2 ≤ 256) → 0 ≤ total L ∧ total L ≤ 256 * L.length
  | [], _ => by simp [total]
  | z :: r, h => by
    have := total_bound r (fun y hy => h y (List.mem_cons_of_mem _ hy))
    have := h z List.mem_cons_self
    rw [total_cons, List.length_cons]
    omega

/-- The first phase: all is cut off, none is given back. -/
structure Cut (A : Ar) (L : Places) : Prop where
  rooms : ∀ c, A.rooms c = []
  taken : ∀ z ∈ L, A.taken z.1 = some z.2
  lt : ∀ z ∈ L, z.1 < A.height
  height : (A.height : Int) = total L
  live : A.live = total L
  nd : (L.map (·.1)).Nodup
  bnd : ∀ z ∈ L, 16 ≤ z.2 ∧ z.2 ≤ 256
  n : A.n = 8192

theorem Cut.fresh : Cut (Ar.fresh 8192) [] := ⟨fun _ => rfl, fun z h => (by cases h), fun z h => (by cases h), rfl, rfl, by simp, fun z h => (by cases h), rfl⟩

theorem Cut.next {A : Ar} {L : Places} (h : Cut A L) (c : Nat) (h1 : 16 ≤ c) (h2 : c ≤ 256) : Cut (({ A with height := A.height + c } : Ar).took A.height c) (L ++ [((A.height : Int), (c : Int))]) where
  rooms := h.rooms
  taken := by
    intro z hz
    rcases List.mem_append.1 hz with hz | hz
    · show setAt A.taken _ _ z.1 = _
      have := h.lt z hz
      rw [setAt_ne _ _ _ _ (by omega)]
      exact h.taken z hz
    · simp only [List.mem_singleton] at hz; subst hz
      exact setAt_same _ _ _
  lt := by
    intro z hz
    show z.1 < ((A.height + c : Nat) : Int)
    rcases List.mem_append.1 hz with hz | hz
    · have := h.lt z hz; omega
    · simp only [List.mem_singleton] at hz; subst hz; simp only; omega
  height := by
    rw [total_append, ← h.height]
    show ((A.height + c : Nat) : Int) = _
    simp [total]
  live := by
    rw [total_append, ← h.live]
    show A.live + c = _
    simp [total]
  nd := by
    simp only [List.map_append, List.map_cons, List.map_nil, List.nodup_append]
    refine ⟨h.nd, by simp, fun a ha b hb e => ?_⟩
    simp only [List.mem_singleton] at hb
    obtain ⟨z, hz, rfl⟩ := List.mem_map.1 ha
    have := h.lt z hz
    omega
  bnd := by
    intro z hz
    rcases List.mem_append.1 hz with hz | hz
    · exact h.bnd z hz
    · simp only [List.mem_singleton] at hz; subst hz; simp only; omega
  n := h.n

/-- Given back and taken, room for room. -/
structure Bal (A : Ar) (L : Places) (H : Nat) : Prop where
  height : A.height = H
  pos : ∀ z ∈ L, ∀ c, A.taken z.1 = some c → c = z.2
  rooms : ∀ c, (A.rooms c).length + cnt c (tk A L) = cnt c L
  live : A.live = total (tk A L)
  nd : (L.map (·.1)).Nodup
  bnd : ∀ z ∈ L, 16 ≤ z.2 ∧ z.2 ≤ 256
  n : A.n = 8192

theorem tk_all {A : Ar} {L : Places} (h : ∀ z ∈ L, A.taken z.1 = some z.2) : tk A L = L := by
  unfold tk
  rw [List.filter_eq_self]
  intro z hz
  rw [h z hz]; rfl

theorem Cut.bal {A : Ar} {L : Places} (h : Cut A L) : Bal A L A.height where
  height := rfl
  pos z hz c hc := by rw [h.taken z hz] at hc; cases hc; rfl
  rooms c := by rw [tk_all h.taken, h.rooms]; simp
  live := by rw [tk_all h.taken]; exact h.live
  nd := h.nd
  bnd := h.bnd
  n := h.n

theorem Bal.give {A : Ar} {L : Places} {H : Nat} (h : Bal A L H) {z : Int × Int} (hz : z ∈ L) {c : Int} (hc : A.taken z.1 = some c) : Bal (A.gave z.1 c) L H := by
  obtain rfl := h.pos z hz c hc
  have hT : z ∈ tk A L := List.mem_filter.2 ⟨hz, by rw [hc]; rfl⟩
  have hnd : ((tk A L).map (·.1)).Nodup := List.Nodup.sublist (List.Sublist.map _ List.filter_sublist) h.nd
  obtain ⟨h1, h2⟩ := less_one (tk A L) z hnd hT
  have htk : tk (A.gave z.1 z.2) L = (tk A L).filter fun y => !(y.1 == z.1) := by
    unfold tk
    rw [List.filter_filter]
    apply List.filter_congr
    intro y _
    show (setAt A.taken z.1 Option.none y.1).isSome = _
    by_cases hy : y.1 = z.1
    · simp [setAt, hy]
    · have hb : (y.1 == z.1) = false := by simpa using hy
      simp [setAt, hy]
  refine ⟨h.height, ?_, ?_, ?_, h.nd, h.bnd, h.n⟩
  · intro y hy c hyc
    have hyc' : setAt A.taken z.1 Option.none y.1 = some c := hyc
    simp only [setAt] at hyc'
    split at hyc'
    · cases hyc'
    · exact h.pos y hy c hyc'
  · intro c
    rw [htk]
    show (setAt A.rooms z.2 (A.rooms z.2 ++ [z.1]) c).length + _ = _
    have h3 := h1 c
    have h4 := h.rooms c
    by_cases hc : c = z.2
    · subst hc
      rw [setAt_same]
      simp only [if_true] at h3
      simp only [List.length_append, List.length_cons, List.length_nil]
      omega
    · rw [setAt_ne _ _ _ _ hc]
      rw [if_neg (fun e => hc e.symm)] at h3
      omega
  · rw [htk]
    show A.live - z.2 = _
    rw [h.live]; omega

theorem Bal.bounds {A : Ar} {L : Places} {H : Nat} (h : Bal A L H) (hl : L.length ≤ 30) : 0 ≤ A.live ∧ A.live ≤ 7680 ∧ ∀ c, (A.rooms c).length ≤ 30 := by
  have hb := total_bound (tk A L) (fun z hz => h.bnd z (List.mem_filter.1 hz).1)
  have hlen : (tk A L).length ≤ L.length := List.length_filter_le _ _
  rw [h.live]
  refine ⟨hb.1, by omega, fun c => ?_⟩
  have := h.rooms c
  have : cnt c L ≤ L.length := List.length_filter_le _ _
  omega

/-- The last phase: what was given back is taken again. -/
structure Back (A : Ar) (rest : Places) (H : Nat) (live : Int) : Prop where
  height : A.height = H
  rooms : ∀ c, (A.rooms c).length = cnt c rest
  live : A.live = live
  bnd : ∀ z ∈ rest, 16 ≤ z.2 ∧ z.2 ≤ 256

theorem Bal.back {A : Ar} {L : Places} {H : Nat} (h : Bal A L H) (hn : ∀ z ∈ L, A.taken z.1 = Option.none) : Back A L H 0 := by
  have : tk A L = [] := by
    unfold tk
    rw [List.filter_eq_nil_iff]
    intro z hz
    rw [hn z hz]; simp
  have hr := h.rooms
  have hl := h.live
  rw [this] at hr hl
  exact ⟨h.height, fun c => by have := hr c; simpa [cnt] using this, by simpa [total] using hl, h.bnd⟩

theorem Back.next {A : Ar} {z : Int × Int} {rest : Places} {H : Nat} {live : Int} (h : Back A (z :: rest) H live) : ∃ xs x, A.rooms z.2 = xs ++ [x] ∧
    ∀ (b : List Int) (t : Int → Option Int), Back { A with b := b, taken := t, rooms := setAt A.rooms z.2 xs, live := A.live + z.2 } rest H (live + z.2) := by
  have hr := h.rooms z.2
  rw [cnt_cons] at hr
  simp only [if_true] at hr
  have hne : A.rooms z.2 ≠ [] := by
    intro e; rw [e] at hr; simp at hr; omega
  refine ⟨(A.rooms z.2).dropLast, (A.rooms z.2).getLast hne, (List.dropLast_concat_getLast hne).symm, fun b t => ⟨h.height, fun c => ?_, by show A.live + z.2 = _; rw [h.live], fun y hy => h.bnd y (List.mem_cons_of_mem _ hy)⟩⟩
  show (setAt A.rooms z.2 _ c).length = _
  by_cases hc : c = z.2
  · subst hc
    rw [setAt_same, List.length_dropLast]; omega
  · rw [setAt_ne _ _ _ _ hc]
    have := h.rooms c
    rw [cnt_cons, if_neg (fun e => hc e.symm)] at this
    omega
end Go.Proofs.Ytmjnoboeffajbaa
