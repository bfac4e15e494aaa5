/- What taking a room of an arena and giving it back do. -/
import Derived.Test.YtmjnoboeffajbaaAc
import Derived.Deep.RegionLaw
namespace Go.Proofs.Ytmjnoboeffajbaa
open Go.RowKit Go.Maps
set_option linter.unusedSimpArgs false
set_option linter.unusedVariables false

variable {w : World} {p : Nat} {A : Ar} {R : Rp}

/-- What a step does to memory: it touches the arena's blocks alone, and what the arena has then was its own or is new. -/
structure Step (w w' : World) (p : Nat) (R R' : Rp) : Prop where
  touch : Touch (fp R p) w w'
  sub : ∀ k, fp R' p k → fp R p k ∨ w.heap.size ≤ k

theorem Step.refl (w : World) (p : Nat) (R : Rp) : Step w w p R R := ⟨Touch.refl _ _, fun _ h => .inl h⟩
theorem Step.of (R : Rp) {w w' : World} (t : Touch (fp R p) w w') : Step w w' p R R := ⟨t, fun _ h => .inl h⟩
theorem Step.trans {w w' w'' : World} {R R' R'' : Rp} (h : Step w w' p R R') (k : Step w' w'' p R' R'') : Step w w'' p R R'' where
  touch := h.touch.trans' k.touch (fun _ _ h => h) (fun i hi hk => (h.sub i hk).elim id (fun h' => by omega))
  sub i hi := by
    rcases k.sub i hi with h1 | h1
    · exact h.sub i h1
    · have := h.touch.size; exact .inr (by omega)
theorem Step.drewN (w : World) (p : Nat) (R : Rp) (n : Nat) : Step w (w.drewN n) p R R := Step.of R (Touch.drewN _ w n)

def gput : List (Int × Value × List Int) → Int → Value → List Int → List (Int × Value × List Int)
  | [], x, u, ys => [(x, u, ys)]
  | (k, v, xs) :: r, x, u, ys => if k = x then (x, u, ys) :: r else (k, v, xs) :: gput r x u ys

theorem gput_map : ∀ (l : List (Int × Value × List Int)) (x : Int) (u : Value) (ys : List Int), (gput l x u ys).map (fun z => (z.1, z.2.1)) = mput (l.map fun z => (z.1, z.2.1)) x u
  | [], _, _, _ => rfl
  | (k, v, xs) :: r, x, u, ys => by
    unfold gput
    simp only [List.map_cons, mput]
    split
    · rfl
    · simp [gput_map r x u ys]

theorem gput_mem : ∀ (l : List (Int × Value × List Int)) (x : Int) (u : Value) (ys : List Int), (l.map (·.1)).Nodup → ∀ z ∈ gput l x u ys, z = (x, u, ys) ∨ (z ∈ l ∧ z.1 ≠ x)
  | [], x, u, ys, _, z, hz => by simp only [gput, List.mem_singleton] at hz; exact .inl hz
  | (k, v, xs) :: r, x, u, ys, hn, z, hz => by
    simp only [List.map_cons, List.nodup_cons] at hn
    unfold gput at hz
    by_cases hk : k = x
    · rw [if_pos hk] at hz
      rcases List.mem_cons.1 hz with rfl | hz
      · exact .inl rfl
      · refine .inr ⟨List.mem_cons_of_mem _ hz, fun e => hn.1 ?_⟩
        rw [hk, ← e]; exact List.mem_map.2 ⟨z, hz, rfl⟩
    · rw [if_neg hk] at hz
      rcases List.mem_cons.1 hz with rfl | hz
      · exact .inr ⟨List.mem_cons_self, hk⟩
      · rcases gput_mem r x u ys hn.2 z hz with h | ⟨h, h'⟩
        · exact .inl h
        · exact .inr ⟨List.mem_cons_of_mem _ h, h'⟩

theorem gget_put : ∀ (l : List (Int × Value × List Int)) (x y : Int) (u : Value) (ys : List Int), gget (gput l x u ys) y = if y = x then some (u, ys) else gget l y
  | [], x, y, u, ys => by
    simp only [gput, gget]
    by_cases h : x = y
    · simp [h]
    · have h' : ¬ y = x := fun e => h e.symm
      simp [h, h']
  | (k, v, xs) :: r, x, y, u, ys => by
    unfold gput
    by_cases hx : k = x
    · subst hx
      simp only [if_true, gget]
      by_cases h : k = y
      · simp [h]
      · have h' : ¬ y = k := fun e => h e.symm
        simp [h, h']
    · simp only [hx, if_false, gget, gget_put r x y u ys]
      by_cases h : k = y
      · subst h; simp [hx]
      · simp [h]

theorem gput_keys_mem : ∀ (l : List (Int × Value × List Int)) (x y : Int) (u : Value) (ys : List Int), y ∈ (gput l x u ys).map (·.1) ↔ y = x ∨ y ∈ l.map (·.1)
  | [], x, y, u, ys => by simp [gput]
  | (k, v, xs) :: r, x, y, u, ys => by
    unfold gput
    by_cases hx : k = x
    · subst hx; simp
    · simp only [hx, if_false, List.map_cons, List.mem_cons, gput_keys_mem r x y u ys]
      constructor
      · rintro (h | h | h) <;> simp [h]
      · rintro (h | h | h) <;> simp [h]

theorem gput_nodup : ∀ (l : List (Int × Value × List Int)) (x : Int) (u : Value) (ys : List Int), (l.map (·.1)).Nodup → ((gput l x u ys).map (·.1)).Nodup
  | [], x, u, ys, _ => by simp [gput]
  | (k, v, xs) :: r, x, u, ys, h => by
    simp only [List.map_cons, List.nodup_cons] at h
    unfold gput
    by_cases hx : k = x
    · subst hx; simp only [if_true, List.map_cons, List.nodup_cons]; exact h
    · simp only [hx, if_false, List.map_cons, List.nodup_cons]
      refine ⟨fun hm => ?_, gput_nodup r x u ys h.2⟩
      rcases (gput_keys_mem r x k u ys).1 hm with h' | h'
      · exact hx h'
      · exact h.1 h'

/-- Two values that share no block. -/
def Far (v v' : Value) : Prop := ∀ k, v.ownBlock = some k → v'.ownBlock ≠ some k
theorem Far.symm {v v' : Value} (h : Far v v') : Far v' v := fun k h1 h2 => h k h2 h1

theorem gput_pairwise : ∀ (l : List (Int × Value × List Int)) (x : Int) (u : Value) (ys : List Int), (l.map (·.1)).Nodup → l.Pairwise (fun a b => Far a.2.1 b.2.1) → (∀ z ∈ l, z.1 ≠ x → Far u z.2.1) →
    (gput l x u ys).Pairwise (fun a b => Far a.2.1 b.2.1)
  | [], x, u, ys, _, _, _ => by simp [gput]
  | (k, v, xs) :: r, x, u, ys, hn, h, hu => by
    simp only [List.map_cons, List.nodup_cons] at hn
    obtain ⟨h1, h2⟩ := List.pairwise_cons.1 h
    unfold gput
    by_cases hx : k = x
    · rw [if_pos hx]
      refine List.pairwise_cons.2 ⟨fun z hz => hu z (List.mem_cons_of_mem _ hz) (fun e => hn.1 ?_), h2⟩
      rw [hx, ← e]; exact List.mem_map.2 ⟨z, hz, rfl⟩
    · rw [if_neg hx]
      refine List.pairwise_cons.2 ⟨fun z hz => ?_, gput_pairwise r x u ys hn.2 h2 (fun z hz hne => hu z (List.mem_cons_of_mem _ hz) hne)⟩
      rcases gput_mem r x u ys hn.2 z hz with rfl | ⟨hz', _⟩
      · exact (hu _ List.mem_cons_self hx).symm
      · exact h1 z hz'

theorem pair_far {l : List (Int × Value × List Int)} (hpw : l.Pairwise fun a b => Far a.2.1 b.2.1) {x z : Int × Value × List Int} (hx : x ∈ l) (hz : z ∈ l) (hne : x ≠ z) : Far x.2.1 z.2.1 := by
  induction l with
  | nil => cases hx
  | cons y r ih =>
    obtain ⟨h1, h2⟩ := List.pairwise_cons.1 hpw
    rcases List.mem_cons.1 hx with e1 | hx1 <;> rcases List.mem_cons.1 hz with e2 | hz1
    · exact absurd (e1.trans e2.symm) hne
    · rw [e1]; exact h1 z hz1
    · rw [e2]; exact (h1 x hx1).symm
    · exact ih h2 hx1 hz1

def setAt {α : Type} (f : Int → α) (x : Int) (v : α) : Int → α := fun y => if y = x then v else f y

/-- The rooms of a class are stored anew. -/
theorem ArAt.regiven {w w' : World} (h : ArAt w p A R) (c : Int) (v' : Value) (xs' : List Int) (m : MapIs w' R.gm (mput R.gkv c v'))
    (t : Touch (fun k => k = R.gm ∨ ∃ v xs, gget R.gl c = some (v, xs) ∧ v.ownBlock = some k) w w') (ho : w'.ownsRow 0 3 1 v' xs'.length (ints xs'))
    (hv : ∀ z ∈ R.gl, z.1 ≠ c → Far v' z.2.1) (hin : ∀ x ∈ xs', 0 ≤ x ∧ 16 ≤ c ∧ x + c ≤ A.height) :
    ArAt w' p { A with rooms := setAt A.rooms c xs' } { R with gl := gput R.gl c v' xs' } := by
  have hF : ∀ k, (k = p ∨ k = R.buf ∨ k = R.tm) → ¬ (k = R.gm ∨ ∃ v xs, gget R.gl c = some (v, xs) ∧ v.ownBlock = some k) := by
    intro k hk hf
    rcases hf with rfl | ⟨v, xs, hg, ho⟩
    · rcases hk with hk | hk | hk
      · exact h.pg hk.symm
      · exact h.bg hk.symm
      · exact h.htg hk.symm
    · have hm := gget_mem _ _ _ _ hg
      rcases hk with rfl | rfl | rfl
      · exact h.rp hm ho
      · exact h.rb hm ho
      · exact h.rt hm ho
  refine ⟨?_, t.heap (hF _ (.inr (.inl rfl))) h.hb, h.hbl, t.map (hF _ (.inr (.inr rfl))) h.ht, ?_, h.htg, h.ta, ?_, ?_, h.nd, gput_nodup _ _ _ _ h.gnd, gput_pairwise _ _ _ _ h.gnd h.bnd hv, h.hn, h.hh, h.inT, ?_⟩
  · exact t.heap (hF _ (.inl rfl)) h.hp
  · have : ({ R with gl := gput R.gl c v' xs' } : Rp).gkv = mput R.gkv c v' := gput_map _ _ _ _
    rw [this]; exact m
  · intro c'
    simp only [setAt, gget_put]
    split
    · rfl
    · exact h.ro c'
  · intro x hx
    rcases gput_mem _ _ _ _ h.gnd x hx with rfl | ⟨hx', hne⟩
    · exact ho
    · refine ownsRow_touch t (h.own x hx') (fun k hk hf => ?_)
      rcases hf with rfl | ⟨v, xs, hg, ho⟩
      · exact h.rg hx' hk
      · have hm := gget_mem _ _ _ _ hg
        have hpw := h.bnd
        have := pair_far hpw hm hx' (fun e => hne (by rw [← e]))
        exact this k ho hk
  · intro c' x hx
    simp only [setAt] at hx
    split at hx
    · rename_i hc; subst hc; exact hin x hx
    · exact h.inR c' x hx

/-- .. and what that is to the arena's blocks. -/
theorem step_regiven {w w' : World} {c : Int} {v' : Value} {xs' : List Int} (hn : (R.gl.map (·.1)).Nodup) (t : Touch (fun k => k = R.gm ∨ ∃ v xs, gget R.gl c = some (v, xs) ∧ v.ownBlock = some k) w w')
    (hv : ∀ k, v'.ownBlock = some k → fp R p k ∨ w.heap.size ≤ k) : Step w w' p R { R with gl := gput R.gl c v' xs' } where
  touch := t.mono (fun k _ hk => by
    rcases hk with rfl | ⟨v, xs, hg, ho⟩
    · exact .inr (.inr (.inr (.inl rfl)))
    · exact .inr (.inr (.inr (.inr ⟨_, gget_mem _ _ _ _ hg, ho⟩))))
  sub k hk := by
    rcases hk with hk | hk | hk | hk | ⟨x, hx, hk⟩
    · exact .inl (.inl hk)
    · exact .inl (.inr (.inl hk))
    · exact .inl (.inr (.inr (.inl hk)))
    · exact .inl (.inr (.inr (.inr (.inl hk))))
    · rcases gput_mem _ _ _ _ hn x hx with rfl | ⟨hx', _⟩
      · exact hv k hk
      · exact .inl (.inr (.inr (.inr (.inr ⟨x, hx', hk⟩))))
end Go.Proofs.Ytmjnoboeffajbaa
