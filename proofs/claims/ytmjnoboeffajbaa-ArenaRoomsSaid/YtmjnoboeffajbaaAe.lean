/- What an arena's inner choice of a place does. -/
import Derived.Test.YtmjnoboeffajbaaAd
namespace Go.Proofs.Ytmjnoboeffajbaa
open Go.RowKit Go.Maps
set_option linter.unusedSimpArgs false
set_option linter.unusedVariables false

variable {w : World} {p : Nat} {A : Ar} {R : Rp}

/-- The rooms of a class, as they lie. -/
theorem ArAt.given (h : ArAt w p A R) (c : Int) : ∃ v, mget R.gkv c = (gget R.gl c).map (·.1) ∧ ((gget R.gl c).map (·.1)).getD (.slice Option.none 0 0) = v ∧
    w.ownsRow 0 3 1 v (A.rooms c).length (ints (A.rooms c)) ∧ (∀ k, v.ownBlock = some k → ∃ xs, gget R.gl c = some (v, xs) ∧ (c, v, xs) ∈ R.gl) := by
  have e1 : mget R.gkv c = (gget R.gl c).map (·.1) := gget_map _ _
  rw [h.ro c]
  cases hg : gget R.gl c with
  | none =>
    rw [hg] at e1
    refine ⟨.slice Option.none 0 0, e1, rfl, by simp [ints]; exact World.ownsRow_nil w 0 3 1, fun k hk => by simp [Value.ownBlock] at hk⟩
  | some y =>
    obtain ⟨v, xs⟩ := y
    rw [hg] at e1
    have hm := gget_mem _ _ _ _ hg
    exact ⟨v, e1, rfl, h.own _ hm, fun k _ => ⟨xs, rfl, hm⟩⟩

def PlacePost (p : Nat) (A : Ar) (R : Rp) (x : Int) (A' : Ar) (w : World) (e : Ending) (w' : World) : Prop :=
  ∃ R', e = .returned (.tuple #[.int .i64 x, .bool true]) ∧ ArAt w' p A' R' ∧ Step w w' p R R'

set_option maxHeartbeats 400000 in
theorem place_again (h : ArAt w p A R) (c : Int) (xs : List Int) (x : Int) (hr : A.rooms c = xs ++ [x]) :
    Calls Try.prog 52 #[.pointer (some ⟨p, 0, Option.none⟩), .int .i64 c] w (PlacePost p A R x { A with rooms := setAt A.rooms c xs } w) := by
  obtain ⟨v, hm, hv, how, hgv⟩ := h.given c
  have hlk := run_lookup_kv (P := Try.prog) (t := 92) Try.underlying92 Try.underlying3 zero28 h.hg c
  rw [hm, hv] at hlk
  rw [hr] at how
  have hlen : (xs ++ [x]).length = xs.length + 1 := by simp
  rcases how.2 with ⟨_, hn⟩ | ⟨g, cap, cur, rfl, _, hgc, hnc, hcm, hcs, htake⟩
  · simp at hn
  rw [hlen] at hlk hnc htake how
  have hcapN : cap ≤ 9223372036854775807 := by simpa [maxLen] using hcm
  have hcell : w.cell? ⟨g, xs.length, Option.none⟩ = some (.int .i64 x) := by
    have := how.cells (g := g) rfl xs.length (.int .i64 x) (by simp [ints])
    rwa [Addr.add_lit, Nat.zero_add] at this
  obtain ⟨ys, hgg, hmem⟩ := hgv g rfl
  obtain ⟨w2, hu, m2, t2, z2⟩ := run_update_kv (P := Try.prog) (w := w.drew) Try.underlying92 Try.underlying3 (m := R.gkv) (b := R.gm) (by exact h.hg) c (.slice (some ⟨g, 0, Option.none⟩) xs.length cap)
  have hx := h.inR c
  rw [hr] at hx
  have tt : Touch (fun k => k = R.gm ∨ ∃ v xs, gget R.gl c = some (v, xs) ∧ v.ownBlock = some k) w w2 := ((Touch.drew (fun _ => False) w).trans' t2 (fun _ _ h => h.elim) (fun _ _ h => .inl h))
  have how2 : w2.ownsRow 0 3 1 (.slice (some ⟨g, 0, Option.none⟩) xs.length cap) xs.length (ints xs) := by
    have hgm : ¬ g = R.gm := fun e => h.rg hmem (by simp [Value.ownBlock, e])
    refine ⟨by simp [ints], .inr ⟨g, cap, cur, rfl, Nat.zero_le _, t2.heap hgm hgc, by omega, hcm, hcs, ?_⟩⟩
    rw [Nat.mul_one] at htake ⊢
    have e3 := congrArg (List.take xs.length) htake
    rw [List.take_take, Nat.min_eq_left (by omega)] at e3
    rw [e3]; simp [ints]
  have ar2 := h.regiven c _ xs m2 tt how2 (fun z hz hne k hk => pair_far h.bnd hmem hz (fun e => hne (by rw [← e])) k (by simpa [Value.ownBlock] using hk)) (fun y hy => hx y (by simp [hy]))
  have st2 : Step w w2 p R { R with gl := gput R.gl c (.slice (some ⟨g, 0, Option.none⟩) xs.length cap) xs } := step_regiven h.gnd tt (fun k hk => by
    simp only [Value.ownBlock, Option.some.injEq] at hk
    subst hk
    exact .inl (.inr (.inr (.inr (.inr ⟨_, hmem, by simp [Value.ownBlock]⟩)))))
  have FIN := Lib.hid (show PlacePost p A R x { A with rooms := setAt A.rooms c xs } w (.returned (.tuple #[.int .i64 x, .bool true])) w2 from ⟨_, rfl, ar2, st2⟩)
  have c4 := h.c4
  have hcell2 : w2.cell? ⟨g, xs.length, Option.none⟩ = some (.int .i64 x) := t2.cell hcell (fun e => h.rg hmem (by simp only at e; simp [Value.ownBlock, e]))
  clear ar2 st2 how how2 tt hgg hmem hm hv htake hgc hcs hr hx hgv hcell t2 z2 m2 hlen
  go_enter Try.func52, Try.ntmps52
  go_wp2
  go_region
  go_wp2
  go_ret2
  exact FIN.out

theorem ArAt.given0 (h : ArAt w p A R) (c : Int) (hr : A.rooms c = []) : ∃ a cap, (Instr.lookup 92 (.map (some R.gm)) (.int .i64 c) false).run Try.prog w = .ok (.slice a 0 cap) w := by
  obtain ⟨v, hm, hv, how, hgv⟩ := h.given c
  have hlk := run_lookup_kv (P := Try.prog) (t := 92) Try.underlying92 Try.underlying3 zero28 h.hg c
  rw [hm, hv] at hlk
  rw [hr] at how
  rcases how.2 with ⟨rfl, hn⟩ | ⟨g, cap, cur, rfl, _, hgc, hnc, hcm, hcs, htake⟩
  · exact ⟨_, _, hlk⟩
  · exact ⟨_, _, hlk⟩

set_option maxHeartbeats 400000 in
theorem place_full (h : ArAt w p A R) (c : Nat) (hr : A.rooms c = []) (hc : A.n < A.height + c) (hc2 : c ≤ 4194304) :
    Calls Try.prog 52 #[.pointer (some ⟨p, 0, Option.none⟩), .int .i64 c] w fun e w' => e = .returned (.tuple #[.int .i64 0, .bool false]) ∧ ∃ n, w' = w.drewN n := by
  obtain ⟨a, cap, hlk⟩ := h.given0 c hr
  have c0 := h.c0
  have c1 := h.c1
  have c4 := h.c4
  have hn := h.hn
  have hh := h.hh
  have hlt : decide ((A.n : Int) - (A.height : Int) < (c : Int)) = true := by simp; omega
  clear hr
  go_enter Try.func52, Try.ntmps52
  go_wp2
  go_quiet (fail)
  go_wp2
  go_ret2
  exact ⟨rfl, nq, rfl⟩

set_option maxHeartbeats 400000 in
theorem place_fresh (h : ArAt w p A R) (c : Nat) (hr : A.rooms c = []) (hc : A.height + c ≤ A.n) (hc2 : c ≤ 4194304) :
    Calls Try.prog 52 #[.pointer (some ⟨p, 0, Option.none⟩), .int .i64 c] w (PlacePost p A R A.height { A with height := A.height + c } w) := by
  obtain ⟨a, cap, hlk⟩ := h.given0 c hr
  have c0 := h.c0
  have c1 := h.c1
  have f1 := h.fz 1
  have c4 := h.c4
  have hn := h.hn
  have hh := h.hh
  have hlt : decide ((A.n : Int) - (A.height : Int) < (c : Int)) = false := by simp; omega
  have fin : ∀ n, PlacePost p A R A.height { A with height := A.height + c } w (.returned (.tuple #[.int .i64 A.height, .bool true])) ((w.drewN n).setCell ⟨p, 1, Option.none⟩ (.int .i64 ((A.height : Int) + (c : Int)))) := fun n =>
    ⟨R, rfl, (h.drewN n).stored 1 _ (by simp [Ar.cells]) rfl rfl rfl rfl (by simp) hc, Step.of R ((Touch.drewN _ w n).trans (Touch.setCell (F := fp R p) _ (p := ⟨p, 1, Option.none⟩) (.inl rfl) _))⟩
  have FIN := Lib.hid fin
  clear hr fin
  go_enter Try.func52, Try.ntmps52
  go_wp2
  go_quiet (fail)
  go_wp2
  go_ret2
  exact FIN.out nq
end Go.Proofs.Ytmjnoboeffajbaa
