/- Two stacks of one arena: plain laws, and the walk of StackTwo. -/
import Derived.Test.YtmjnoboeffajbaaSg
namespace Go.Proofs.Ytmjnoboeffajbaa
open Go.RowKit Go.Maps
set_option linter.unusedSimpArgs false
set_option linter.unusedVariables false

variable {w w' : World} {q q2 p : Nat} {S S2 : Sk} {A : Ar} {R : Rp} {m m2 : List Nat}

/-- Two stacks in one arena. -/
structure Two (w : World) (q q2 p : Nat) (S S2 : Sk) (A : Ar) (R : Rp) (m m2 : List Nat) : Prop where
  one : SOn w q p S A R m
  two : SOn w q2 p S2 A R m2
  ne : q ≠ q2
  apart : S.o + 8 * S.cells ≤ S2.o

theorem SOn.other (h : SOn w q p S A R m) (h2 : SOn w q2 p S2 A R m2) (hne : q ≠ q2) (hd : S.o + 8 * S.cells ≤ S2.o ∨ S2.o + 8 * S2.cells ≤ S.o) {S' : Sk} {b' : List Int} {m' : List Nat} (on : SOn w' q p S' { A with b := b' } R m')
    (old : ∀ n y, y + n ≤ S.o ∨ S.o + 8 * S.cells ≤ y → rd n b' y = rd n A.b y) (t : Touch (fun k => k = q ∨ k = R.buf) w w') : SOn w' q2 p S2 { A with b := b' } R m2 := by
  refine ⟨h2.sk.kept t ?_, on.ar, h2.cl, on.good, h2.room, h2.has.len, ?_⟩
  · rintro (e | e)
    · exact hne e.symm
    · exact h2.sk.off h2.ar (.inr (.inl e))
  · intro i hi
    have := h2.sk.hh
    rw [show rd 8 b' (S2.o + 8 * i) = rd 8 A.b (S2.o + 8 * i) from old 8 _ (by omega)]
    exact h2.has.word i hi

/-- What a change of one of two comes to. -/
def TwoChg (q q2 p : Nat) (S S2 : Sk) (A : Ar) (R : Rp) (m m2 : List Nat) (v : Value) (B : Nat) (w : World) (e : Ending) (w' : World) : Prop :=
  ∃ S' S2' A', e = .returned v ∧ S'.cells = S.cells ∧ S2'.cells = S2.cells ∧ Two w' q q2 p S' S2' A' R m m2 ∧ Below B w w'

theorem Two.push1 (h : Two w q q2 p S S2 A R m m2) (v : Nat) (hv : v < 18446744073709551616) (hl : m.length < S.cells) {B : Nat} (hB : B ≤ w.heap.size) (hq : B ≤ q) (F : From B p R) :
    Calls Try.prog 32 #[.pointer (some ⟨q, 0, Option.none⟩), .slice (some ⟨w.heap.size, 0, Option.none⟩) 1 1] (w.alloc (.cells #[.int .u64 v] 47)) (TwoChg q q2 p S S2 A R (m ++ [v]) m2 (.int .i64 0) B w) := by
  refine (spush1 h.one v hv hl).mono ?_
  rintro e w' ⟨S', b', rfl, o1, o2, on, old, _, t⟩
  have tA : Touch (fun _ => False) w (w.alloc (.cells #[.int .u64 v] 47)) := Touch.alloc _ _ _
  have on2 := (h.one.fresh tA).other (h.two.fresh tA) h.ne (.inl h.apart) on old t
  exact ⟨S', S2, _, rfl, o2, rfl, ⟨on, on2, h.ne, by rw [o1, o2]; exact h.apart⟩, (tA.toBelow hB (fun _ h => h.elim)).trans (SChg.below t (Nat.le_trans hB tA.size) hq F)⟩

theorem Two.push2 (h : Two w q q2 p S S2 A R m m2) (v : Nat) (hv : v < 18446744073709551616) (hl : m2.length < S2.cells) {B : Nat} (hB : B ≤ w.heap.size) (hq : B ≤ q2) (F : From B p R) :
    Calls Try.prog 32 #[.pointer (some ⟨q2, 0, Option.none⟩), .slice (some ⟨w.heap.size, 0, Option.none⟩) 1 1] (w.alloc (.cells #[.int .u64 v] 47)) (TwoChg q q2 p S S2 A R m (m2 ++ [v]) (.int .i64 0) B w) := by
  refine (spush1 h.two v hv hl).mono ?_
  rintro e w' ⟨S', b', rfl, o1, o2, on, old, _, t⟩
  have tA : Touch (fun _ => False) w (w.alloc (.cells #[.int .u64 v] 47)) := Touch.alloc _ _ _
  have on2 := (h.two.fresh tA).other (h.one.fresh tA) h.ne.symm (.inr h.apart) on old t
  exact ⟨S, S', _, rfl, rfl, o2, ⟨on2, on, h.ne, by rw [o1]; exact h.apart⟩, (tA.toBelow hB (fun _ h => h.elim)).trans (SChg.below t (Nat.le_trans hB tA.size) hq F)⟩

/-- Two new stacks. -/
theorem Two.made (a : SOn w q p S A R []) {w' : World} {R' : Rp} {A' : Ar} (eA : A'.n = A.n)
    (on : SOn w' q2 p S2 A' R' []) (st : Step w w' p R R') (hq : w.heap.size ≤ q2) (hap : S.o + 8 * S.cells ≤ S2.o) : Two w' q q2 p S S2 A' R' [] [] := by
  have hlt := a.sk.ltq
  refine ⟨⟨a.sk.kept st.touch (a.sk.off a.ar), on.ar, a.cl, on.good, by rw [eA]; exact a.room, Has.empty _ _ ?_⟩, on, by omega, hap⟩
  have := a.has.len
  simpa using this.symm

/-- What taking some of one of two comes to. -/
def TwoTook (q q2 p : Nat) (S2 : Sk) (A : Ar) (R : Rp) (m' m2 l : List Nat) (B : Nat) (w : World) (e : Ending) (w' : World) : Prop :=
  ∃ x cap S', e = .returned (.tuple #[.slice x l.length cap, .int .i64 0]) ∧ Src w' x l (fun k => k < w.heap.size) ∧ w'.ownsRow 0 47 1 (.slice x l.length cap) l.length (uvals l) ∧ S'.cells = S2.cells ∧ Two w' q q2 p S' S2 A R m' m2 ∧ Below B w w'

theorem Two.take1 (h : Two w q q2 p S S2 A R m m2) (hcc : S.cells = S2.cells) (n : Nat) (hn : n ≤ m.length) {B : Nat} (hB : B ≤ w.heap.size) (hq : B ≤ q) :
    Calls Try.prog 34 #[.pointer (some ⟨q, 0, Option.none⟩), .int .i64 n] w (TwoTook q q2 p S2 A R (m.take (m.length - n)) m2 (m.drop (m.length - n)) B w) := by
  refine (stake h.one n hn).mono ?_
  rintro e w' ⟨x, cap, rfl, ho, hf, on, t⟩
  have hl : (m.drop (m.length - n)).length = n := by simp; omega
  have hs : Src w' x (m.drop (m.length - n)) (fun k => k < w.heap.size) := src_own ho hl (fun v hv => has_lt h.one.has h.one.good v (List.mem_of_mem_drop hv)) (fun k hk e => by have := hf k hk; omega)
  have on2 := h.two.kept t (fun e => h.ne e.symm) (fun k hk e => by rw [e] at hk; exact h.one.sk.off h.one.ar hk)
  refine ⟨x, cap, { S with h := S.h - n }, by rw [hl], hs, by rw [hl]; exact ho, hcc, ⟨on, on2, h.ne, h.apart⟩, t.toBelow hB (fun k hk => by rw [hk]; exact hq)⟩

def TwoTook2 (q q2 p : Nat) (S : Sk) (A : Ar) (R : Rp) (m m2' l : List Nat) (B : Nat) (w : World) (e : Ending) (w' : World) : Prop :=
  ∃ x cap S', e = .returned (.tuple #[.slice x l.length cap, .int .i64 0]) ∧ Src w' x l (fun k => k < w.heap.size) ∧ w'.ownsRow 0 47 1 (.slice x l.length cap) l.length (uvals l) ∧ S'.cells = S.cells ∧ Two w' q q2 p S S' A R m m2' ∧ Below B w w' ∧ Touch (· = q2) w w'

theorem Two.take2 (h : Two w q q2 p S S2 A R m m2) (hcc : S2.cells = S.cells) (n : Nat) (hn : n ≤ m2.length) {B : Nat} (hB : B ≤ w.heap.size) (hq : B ≤ q2) :
    Calls Try.prog 34 #[.pointer (some ⟨q2, 0, Option.none⟩), .int .i64 n] w (TwoTook2 q q2 p S A R m (m2.take (m2.length - n)) (m2.drop (m2.length - n)) B w) := by
  refine (stake h.two n hn).mono ?_
  rintro e w' ⟨x, cap, rfl, ho, hf, on, t⟩
  have hl : (m2.drop (m2.length - n)).length = n := by simp; omega
  have hs : Src w' x (m2.drop (m2.length - n)) (fun k => k < w.heap.size) := src_own ho hl (fun v hv => has_lt h.two.has h.two.good v (List.mem_of_mem_drop hv)) (fun k hk e => by have := hf k hk; omega)
  have on2 := h.one.kept t (fun e => h.ne e) (fun k hk e => by rw [e] at hk; exact h.two.sk.off h.two.ar hk)
  refine ⟨x, cap, { S2 with h := S2.h - n }, by rw [hl], hs, by rw [hl]; exact ho, hcc, ⟨on2, on, h.ne, h.apart⟩, t.toBelow hB (fun k hk => by rw [hk]; exact hq), t⟩
end Go.Proofs.Ytmjnoboeffajbaa
