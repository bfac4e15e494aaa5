/- StackPlays: what is known ahead of a round. -/
import Derived.Test.YtmjnoboeffajbaaPf
namespace Go.Proofs.Ytmjnoboeffajbaa
open Go.RowKit Go.Maps
set_option linter.unusedSimpArgs false
set_option linter.unusedVariables false

theorem URow.cell {B : Nat} {w : World} {q p : Nat} {R : Rp} {g cap : Nat} {m : List Nat} (h : URow B w q p R (some ⟨g, 0, Option.none⟩) cap m) {i : Nat} (hi : i < m.length) : w.cell? ⟨g, i, Option.none⟩ = some (.int .u64 (m.getD i 0 : Nat)) := by
  rcases h.form with ⟨h1, _⟩ | ⟨g', h1, _, _, _, _, _, h2⟩
  · cases h1
  · cases h1
    exact h2 i hi
theorem URow.cap {B : Nat} {w : World} {q p : Nat} {R : Rp} {g cap : Nat} {m : List Nat} (h : URow B w q p R (some ⟨g, 0, Option.none⟩) cap m) : m.length ≤ cap := by
  rcases h.form with ⟨h1, _⟩ | ⟨g', h1, h2, _⟩
  · cases h1
  · exact h2
theorem URow.part {B : Nat} {w : World} {q p : Nat} {R : Rp} {g cap : Nat} {m : List Nat} (h : URow B w q p R (some ⟨g, 0, Option.none⟩) cap m) (k : Nat) (hk : k ≤ m.length) (c : Nat) : USrc w (.slice (some ⟨g, 0, Option.none⟩) k c) (m.take k) :=
  USrc.part (m := []) _ k c (by simp; omega) (fun i hi => by
    have hi' : i < k := by simp at hi; omega
    rw [Nat.zero_add, h.cell (by omega)]
    simp [List.getD_eq_getElem?_getD, List.getElem?_take, hi'])
theorem URow.rest {B : Nat} {w : World} {q p : Nat} {R : Rp} {g cap : Nat} {m : List Nat} (h : URow B w q p R (some ⟨g, 0, Option.none⟩) cap m) (k n : Nat) (hk : k ≤ m.length) (hn : n = m.length - k) (c : Nat) (o : Nat) (ho : o = k ∨ n = 0) : USrc w (.slice (some ⟨g, o, Option.none⟩) n c) (m.drop k) :=
  USrc.part (m := []) _ n c (by simp; omega) (fun i hi => by
    have hi' : i < m.length - k := by simpa using hi
    rcases ho with ho | ho
    · rw [ho, h.cell (by omega)]
      simp [List.getD_eq_getElem?_getD]
    · omega)
theorem URow.frozenAt {B : Nat} {w : World} {q p : Nat} {R : Rp} {g cap : Nat} {m : List Nat} (h : URow B w q p R (some ⟨g, 0, Option.none⟩) cap m) (i : Nat) : w.frozen? ⟨g, i, Option.none⟩ = false := h.own.frozenAt i
/-- A word of the law's own set, as the stack has it. -/
theorem Plays.stored {w : World} {n q p : Nat} {A0 : Ar} {R : Rp} {wr : World} {ms mr : List Nat} {g cap : Nat} (h : Plays w n q p A0 R wr ms mr (some ⟨g, 0, Option.none⟩) cap) {i : Nat} (hi : i < mr.length) (v : Nat) :
    Plays w n q p A0 R (wr.setCell ⟨g, i, Option.none⟩ (.int .u64 (v : Int))) ms (mr.set i v) (some ⟨g, 0, Option.none⟩) cap := by
  have ho := h.row.off g rfl
  have t := Touch.cell1 wr g i (.int .u64 (v : Int))
  have st := (h.row.own.stored i (.int .u64 (v : Int))).1
  refine ⟨?_, ⟨?_, fun k hk => h.row.off k (by simpa [Value.ownBlock] using hk)⟩, h.bel.trans (t.toBelow h.bel.size (fun k hk => by rw [hk]; exact ho.1)), h.hq, h.F⟩
  · obtain ⟨S, b, hc, ho', on⟩ := h.on
    exact ⟨S, b, hc, ho', on.kept t (fun e => ho.2.1 e.symm) (fun k hk e => by rw [e] at hk; exact ho.2.2 hk)⟩
  · have e : (uvals mr).set i (.int .u64 (v : Int)) = uvals (mr.set i v) := by simp [uvals, List.map_set]
    rw [← e, List.length_set]
    exact st
theorem split_last {ms : List Nat} (h : 0 < ms.length) : ms = ms.take (ms.length - 1) ++ [ms.getD (ms.length - 1) 0] := by
  conv => lhs; rw [← List.take_append_drop (ms.length - 1) ms]
  congr 1
  rw [List.drop_eq_getElem_cons (by omega), List.drop_eq_nil_of_le (by omega), List.getD_eq_getElem?_getD, List.getElem?_eq_getElem (by omega)]
  rfl
structure Rnd (w : World) (n q p : Nat) (A0 : Ar) (R : Rp) (wr : World) (u : Nat → Value) (j : Nat) (ms : List Nat) (a : Option Addr) (cap g o len0 cap0 : Nat) (kind xn xk : Int) (la : Option Addr) (ll lc : Nat) (zs : List Int) : Prop where
  u1 : u 1 = .int .i64 n
  u2 : u 2 = .slice (some ⟨g, o, Option.none⟩) len0 cap0
  u7 : u 7 = .pointer (some ⟨p, 0, Option.none⟩)
  u9 : u 9 = .pointer (some ⟨q, 0, Option.none⟩)
  u10 : u 10 = .int .i64 0
  u11 : u 11 = .slice a ms.length cap
  u12 : u 12 = .int .i64 j
  hj : j < len0
  l60 : len0 ≤ 60
  d0 : wr.cell? ⟨g, o + j * 4, Option.none⟩ = some (.int .u8 kind)
  d1 : wr.cell? ⟨g, o + j * 4 + 1, Option.none⟩ = some (.int .i64 xn)
  d2 : wr.cell? ⟨g, o + j * 4 + 2, Option.none⟩ = some (.int .i64 xk)
  d3 : wr.cell? ⟨g, o + j * 4 + 3, Option.none⟩ = some (.slice la ll lc)
  X : XAct (wr.alloc (.cells #[.int .u8 kind, .int .i64 xn, .int .i64 xk, .slice la ll lc] 89)) wr.heap.size kind xn xk la ll lc
  PX : Plays w n q p A0 R (wr.alloc (.cells #[.int .u8 kind, .int .i64 xn, .int .i64 xk, .slice la ll lc] 89)) ms ms a cap
  row : IsRow .u64 w la ll lc zs
  kr : 0 ≤ kind ∧ kind < 256
  nr : -9223372036854775808 ≤ xn ∧ xn ≤ 9223372036854775807
  kr2 : -9223372036854775808 ≤ xk ∧ xk ≤ 9223372036854775807
  hzn : ¬ (wr.heap.size = q ∨ wr.heap.size = R.buf)
  hml : ms.length ≤ n
  n1 : 1 ≤ n
  n2 : n ≤ 65536
/-- What a round comes to. -/
abbrev POut (w : World) (n q p : Nat) (A0 : Ar) (R : Rp) (j g o len0 cap0 : Nat) (K0 : Act → World → Prop) : Exit → Act → World → Prop :=
  Exit.then (fun a' w' => WI (PRel w n q p A0 R (some ⟨g, o, Option.none⟩) len0 cap0) a' w' ∧ Wmu len0 a' w' < len0 - j) (Exit.inBlock 0 (Exit.then K0 (bodyPost Try.prog Try.f15 (fun e w' => e = .returned (.bool true) ∧ Below w.heap.size w w'))))
end Go.Proofs.Ytmjnoboeffajbaa
