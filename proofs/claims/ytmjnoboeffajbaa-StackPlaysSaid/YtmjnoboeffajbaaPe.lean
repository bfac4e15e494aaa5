/- A stack that is played with, beside the law's own words. -/
import Derived.Test.YtmjnoboeffajbaaPc
namespace Go.Proofs.Ytmjnoboeffajbaa
open Go.RowKit Go.Maps
set_option linter.unusedSimpArgs false
set_option linter.unusedVariables false

structure Plays (w : World) (n q p : Nat) (A0 : Ar) (R : Rp) (wr : World) (ms mr : List Nat) (a : Option Addr) (cap : Nat) : Prop where
  on : ∃ S b, S.cells = n ∧ S.o = 0 ∧ SOn wr q p S { A0 with b := b } R ms
  row : URow w.heap.size wr q p R a cap mr
  bel : Below w.heap.size w wr
  hq : w.heap.size ≤ q
  F : From w.heap.size p R

def PTo (w : World) (n q p : Nat) (A0 : Ar) (R : Rp) (wr : World) (ms mr : List Nat) (a : Option Addr) (cap : Nat) (v : Value) (e : Ending) (w' : World) : Prop :=
  e = .returned v ∧ Plays w n q p A0 R w' ms mr a cap ∧ Touch (fun k => k = q ∨ k = R.buf) wr w'

variable {w wr w' : World} {n q p : Nat} {A0 : Ar} {R : Rp} {ms mr m' : List Nat} {a : Option Addr} {cap : Nat}
namespace Plays
theorem le (h : Plays w n q p A0 R wr ms mr a cap) : ms.length ≤ n := by
  obtain ⟨S, b, hc, ho, on⟩ := h.on
  rw [← hc]; exact on.le
theorem ltq (h : Plays w n q p A0 R wr ms mr a cap) : q < wr.heap.size := by
  obtain ⟨S, b, hc, ho, on⟩ := h.on
  exact on.sk.ltq
theorem ltb (h : Plays w n q p A0 R wr ms mr a cap) : R.buf < wr.heap.size := by
  obtain ⟨S, b, hc, ho, on⟩ := h.on
  exact on.ar.ltb
theorem ltf (h : Plays w n q p A0 R wr ms mr a cap) : ∀ k, fp R p k → k < wr.heap.size := by
  obtain ⟨S, b, hc, ho, on⟩ := h.on
  exact fun k hk => on.ar.lt_fp hk
theorem lts (h : Plays w n q p A0 R wr ms mr a cap) : ∀ v ∈ ms, v < 18446744073709551616 := by
  obtain ⟨S, b, hc, ho, on⟩ := h.on
  exact has_lt on.has on.good
theorem step (h : Plays w n q p A0 R wr ms mr a cap) (t : Touch (fun k => k = q ∨ k = R.buf) wr w') (on : ∃ S b, S.cells = n ∧ S.o = 0 ∧ SOn w' q p S { A0 with b := b } R m') : Plays w n q p A0 R w' m' mr a cap :=
  ⟨on, h.row.kept t (fun k hk => hk.imp id (fun e => .inr (.inl e))), h.bel.trans (SChg.below t h.bel.size h.hq h.F), h.hq, h.F⟩
theorem fresh (h : Plays w n q p A0 R wr ms mr a cap) (t : Touch (fun _ => False) wr w') : Plays w n q p A0 R w' ms mr a cap :=
  h.step (t.mono (fun _ _ h => h.elim)) (by
    obtain ⟨S, b, hc, ho, on⟩ := h.on
    exact ⟨S, b, hc, ho, on.fresh t⟩)
theorem same (h : Plays w n q p A0 R wr ms mr a cap) (v : Value) : PTo w n q p A0 R wr ms mr a cap v (.returned v) wr := ⟨rfl, h, Touch.refl _ _⟩
theorem drew (h : Plays w n q p A0 R wr ms mr a cap) (v : Value) (k : Nat) : PTo w n q p A0 R wr ms mr a cap v (.returned v) (wr.drewN k) := ⟨rfl, h.fresh (Touch.drewN _ _ _), Touch.drewN _ _ _⟩
theorem built (h : Plays w n q p A0 R wr ms mr a cap) {w2 : World} {a' : Option Addr} {i cap' : Nat} {l : List Nat} (hb : UBld wr w2 a' i cap' l) (hi : i = l.length) : Plays w n q p A0 R w2 ms l a' cap' :=
  ⟨(h.fresh hb.t).on, hb.row hi h.bel.size h.ltq h.ltf, (h.fresh hb.t).bel, h.hq, h.F⟩

theorem push (h : Plays w n q p A0 R wr ms mr a cap) (l : List Nat) (hl : ms.length + l.length ≤ n) (k : Nat) (hk : k = l.length) (x : Option Addr) (c : Nat) (hs : Src wr x l (fun k => k = q ∨ k = R.buf)) :
    Calls Try.prog 32 #[.pointer (some ⟨q, 0, Option.none⟩), .slice x k c] wr (PTo w n q p A0 R wr (ms ++ l) mr a cap (.int .i64 0)) := by
  obtain ⟨S, b, hc, ho, on⟩ := h.on
  subst hk
  refine (spush on l (by rw [hc]; exact hl) x c hs).mono ?_
  rintro e w' ⟨S', b', rfl, o1, o2, on', _, _, t⟩
  exact ⟨rfl, h.step t ⟨S', b', by rw [o2, hc], by rw [o1, ho], on'⟩, t⟩
theorem deep (h : Plays w n q p A0 R wr ms mr a cap) (k : Nat) (hl : n < ms.length + k) (x : Option Addr) (c : Nat) :
    Calls Try.prog 32 #[.pointer (some ⟨q, 0, Option.none⟩), .slice x k c] wr (PTo w n q p A0 R wr ms mr a cap (.int .i64 11)) := by
  obtain ⟨S, b, hc, ho, on⟩ := h.on
  refine (spush_deep on k (by rw [hc]; exact hl) x c).mono ?_
  rintro e w' ⟨rfl, j, rfl⟩
  exact h.drew _ j
theorem pop (h : Plays w n q p A0 R wr ms mr a cap) (v : Nat) (hm : ms = m' ++ [v]) :
    Calls Try.prog 33 #[.pointer (some ⟨q, 0, Option.none⟩)] wr (PTo w n q p A0 R wr m' mr a cap (.tuple #[.int .u64 v, .int .i64 0])) := by
  obtain ⟨S, b, hc, ho, on⟩ := h.on
  refine (spop on v m' hm).mono ?_
  rintro e w' ⟨S', b', rfl, o1, o2, on', _, _, t⟩
  exact ⟨rfl, h.step t ⟨S', b', by rw [o2, hc], by rw [o1, ho], on'⟩, t⟩
theorem popE (h : Plays w n q p A0 R wr [] mr a cap) :
    Calls Try.prog 33 #[.pointer (some ⟨q, 0, Option.none⟩)] wr (PTo w n q p A0 R wr [] mr a cap (.tuple #[.int .u64 0, .int .i64 2])) := by
  obtain ⟨S, b, hc, ho, on⟩ := h.on
  refine (spop_empty on).mono ?_
  rintro e w' ⟨rfl, rfl⟩
  exact h.same _
def Took (w : World) (n q p : Nat) (A0 : Ar) (R : Rp) (wr : World) (ms mr : List Nat) (a : Option Addr) (cap : Nat) (k : Nat) (e : Ending) (w' : World) : Prop :=
  ∃ x c, e = .returned (.tuple #[.slice x k c, .int .i64 0]) ∧ (∀ i, i < k → ∃ g, x = some ⟨g, 0, Option.none⟩ ∧ w'.cell? ⟨g, i, Option.none⟩ = some (.int .u64 (ms.getD (ms.length - k + i) 0 : Nat))) ∧
    Plays w n q p A0 R w' (ms.take (ms.length - k)) mr a cap ∧ Touch (fun k => k = q ∨ k = R.buf) wr w'
theorem take (h : Plays w n q p A0 R wr ms mr a cap) (k : Nat) (hk : k ≤ ms.length) :
    Calls Try.prog 34 #[.pointer (some ⟨q, 0, Option.none⟩), .int .i64 k] wr (Took w n q p A0 R wr ms mr a cap k) := by
  obtain ⟨S, b, hc, ho, on⟩ := h.on
  refine (stake on k hk).mono ?_
  rintro e w' ⟨x, c, rfl, how, hoff, on', t⟩
  have tt : Touch (fun k => k = q ∨ k = R.buf) wr w' := t.mono (fun _ _ h => .inl h)
  refine ⟨x, c, rfl, fun i hi => ?_, h.step tt ⟨{ S with h := S.h - k }, b, hc, ho, on'⟩, tt⟩
  have hD : (ms.drop (ms.length - k)).length = k := by simp; omega
  rcases how.2 with ⟨hv, hn⟩ | ⟨g, cap', cur, hv, hbg, hg, hnc, hcm, hcs, htake⟩
  · omega
  · simp only [Value.slice.injEq] at hv
    refine ⟨g, hv.1, ?_⟩
    have e2 : (ms.drop (ms.length - k)).getD i 0 = ms.getD (ms.length - k + i) 0 := by simp [List.getD_eq_getElem?_getD]
    have := how.cells (g := g) (by rw [hv.1]; rfl) i (.int .u64 (ms.getD (ms.length - k + i) 0 : Nat)) (by
      rw [← e2]
      simp only [uvals, List.getElem?_map]
      rw [List.getElem?_eq_getElem (by omega), List.getD_eq_getElem?_getD, List.getElem?_eq_getElem (by omega)]; rfl)
    rwa [Addr.add_lit, Nat.zero_add] at this
theorem takeR (h : Plays w n q p A0 R wr ms mr a cap) (k : Int) (hk : k < 0 ∨ (ms.length : Int) < k) :
    Calls Try.prog 34 #[.pointer (some ⟨q, 0, Option.none⟩), .int .i64 k] wr (PTo w n q p A0 R wr ms mr a cap (.tuple #[.slice Option.none 0 0, .int .i64 2])) := by
  obtain ⟨S, b, hc, ho, on⟩ := h.on
  refine (stake_range on.sk on.cl k (by rw [← on.has.len]; exact hk)).mono ?_
  rintro e w' ⟨rfl, rfl⟩
  exact h.same _
theorem get (h : Plays w n q p A0 R wr ms mr a cap) (i : Nat) (hi : i < ms.length) :
    Calls Try.prog 44 #[.pointer (some ⟨q, 0, Option.none⟩), .int .i64 i] wr (PTo w n q p A0 R wr ms mr a cap (.tuple #[.int .u64 ((ms.getD i 0 : Nat) : Int), .int .i64 0])) := by
  obtain ⟨S, b, hc, ho, on⟩ := h.on
  refine (sget on i hi).mono ?_
  rintro e w' ⟨rfl, j, rfl⟩
  exact h.drew _ j
theorem getR (h : Plays w n q p A0 R wr ms mr a cap) (i : Int) (hi : i < 0 ∨ (ms.length : Int) ≤ i) :
    Calls Try.prog 44 #[.pointer (some ⟨q, 0, Option.none⟩), .int .i64 i] wr (PTo w n q p A0 R wr ms mr a cap (.tuple #[.int .u64 0, .int .i64 2])) := by
  obtain ⟨S, b, hc, ho, on⟩ := h.on
  refine (sget_range on.sk on.cl i (by rw [← on.has.len]; exact hi)).mono ?_
  rintro e w' ⟨rfl, rfl⟩
  exact h.same _
theorem set (h : Plays w n q p A0 R wr ms mr a cap) (i v : Nat) (hi : i < ms.length) (hv : v < 18446744073709551616) :
    Calls Try.prog 49 #[.pointer (some ⟨q, 0, Option.none⟩), .int .i64 i, .int .u64 v] wr (PTo w n q p A0 R wr (ms.set i v) mr a cap (.int .i64 0)) := by
  obtain ⟨S, b, hc, ho, on⟩ := h.on
  refine (sset on i v hi hv).mono ?_
  rintro e w' ⟨S', b', rfl, o1, o2, on', _, _, t⟩
  exact ⟨rfl, h.step t ⟨S', b', by rw [o2, hc], by rw [o1, ho], on'⟩, t⟩
theorem setR (h : Plays w n q p A0 R wr ms mr a cap) (i v : Int) (hi : i < 0 ∨ (ms.length : Int) ≤ i) :
    Calls Try.prog 49 #[.pointer (some ⟨q, 0, Option.none⟩), .int .i64 i, .int .u64 v] wr (PTo w n q p A0 R wr ms mr a cap (.int .i64 2)) := by
  obtain ⟨S, b, hc, ho, on⟩ := h.on
  refine (sset_range on i v hi).mono ?_
  rintro e w' ⟨rfl, rfl⟩
  exact h.same _
theorem unwind (h : Plays w n q p A0 R wr ms mr a cap) (keep height : Nat) (h1 : height ≤ ms.length) (h2 : keep ≤ ms.length - height) :
    Calls Try.prog 42 #[.pointer (some ⟨q, 0, Option.none⟩), .int .i64 keep, .int .i64 height] wr (PTo w n q p A0 R wr (ms.take height ++ ms.drop (ms.length - keep)) mr a cap (.int .i64 0)) := by
  obtain ⟨S, b, hc, ho, on⟩ := h.on
  refine (sunwind on keep height h1 h2).mono ?_
  rintro e w' ⟨S', b', rfl, o1, o2, on', _, _, t⟩
  exact ⟨rfl, h.step t ⟨S', b', by rw [o2, hc], by rw [o1, ho], on'⟩, t⟩
theorem unwindR (h : Plays w n q p A0 R wr ms mr a cap) (keep height : Int) (hr : keep < 0 ∨ height < 0 ∨ (ms.length : Int) < height ∨ (ms.length : Int) - height < keep) (k0 : -9223372036854775808 ≤ height) :
    Calls Try.prog 42 #[.pointer (some ⟨q, 0, Option.none⟩), .int .i64 keep, .int .i64 height] wr (PTo w n q p A0 R wr ms mr a cap (.int .i64 2)) := by
  obtain ⟨S, b, hc, ho, on⟩ := h.on
  refine (sunwind_range on keep height hr k0).mono ?_
  rintro e w' ⟨rfl, rfl⟩
  exact h.same _
theorem height (h : Plays w n q p A0 R wr ms mr a cap) : Calls Try.prog 43 #[.pointer (some ⟨q, 0, Option.none⟩)] wr (PTo w n q p A0 R wr ms mr a cap (.int .i64 ms.length)) := by
  obtain ⟨S, b, hc, ho, on⟩ := h.on
  refine (sheight on).mono ?_
  rintro e w' ⟨rfl, rfl⟩
  exact h.same _
theorem room (h : Plays w n q p A0 R wr ms mr a cap) : Calls Try.prog 51 #[.pointer (some ⟨q, 0, Option.none⟩)] wr (PTo w n q p A0 R wr ms mr a cap (.int .i64 ((n : Int) - (ms.length : Int)))) := by
  obtain ⟨S, b, hc, ho, on⟩ := h.on
  have := sroom on
  rw [hc] at this
  refine this.mono ?_
  rintro e w' ⟨rfl, j, rfl⟩
  exact h.drew _ j
end Plays
end Go.Proofs.Ytmjnoboeffajbaa
