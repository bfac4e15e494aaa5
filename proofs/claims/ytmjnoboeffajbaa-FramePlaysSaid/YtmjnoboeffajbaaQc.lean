/- Frames that are played with, beside the law's own frames; an action read. -/
import Derived.Test.YtmjnoboeffajbaaQa
import Derived.Test.YtmjnoboeffajbaaQb
import Derived.Test.YtmjnoboeffajbaaPc
namespace Go.Proofs.Ytmjnoboeffajbaa
open Go.RowKit Go.Maps
set_option linter.unusedSimpArgs false
set_option linter.unusedVariables false

theorem info69z : (Try.prog.info? 69).map (fun i => (i.zero, i.size, i.bytes)) = some (some (.agg z3), 3, 24) := by kernel_rfl
@[reducible] def FE : El Fm where
  ce x := x.cells.toList
  K := 3
  t := 69
  s := 81
  bytes := 24
  z := .agg z3
  len _ := rfl
  one x u hu := by
    simp only [Fm.cells, List.mem_cons, List.not_mem_nil, or_false] at hu
    rcases hu with rfl | rfl | rfl <;> rfl
  pos := by decide
  us := Try.underlying81
  info := info69z
  zs := rfl
  by8 := by decide

structure FPlays (w : World) (n q p : Nat) (A0 : Ar) (R : Rp) (wr : World) (ms mr : List Fm) (a : Option Addr) (cap : Nat) : Prop where
  on : ∃ S b, S.cells = n ∧ S.o = 0 ∧ FOn wr q p S { A0 with b := b } R ms
  row : ERow FE w.heap.size wr (fun k => k = q ∨ fp R p k) a cap mr
  bel : Below w.heap.size w wr
  hq : w.heap.size ≤ q
  F : From w.heap.size p R

def FTo (w : World) (n q p : Nat) (A0 : Ar) (R : Rp) (wr : World) (ms mr : List Fm) (a : Option Addr) (cap : Nat) (v : Value) (e : Ending) (w' : World) : Prop :=
  e = .returned v ∧ FPlays w n q p A0 R w' ms mr a cap ∧ Touch (fun k => k = q ∨ k = R.buf) wr w'

variable {w wr w' : World} {n q p : Nat} {A0 : Ar} {R : Rp} {ms mr m' : List Fm} {a : Option Addr} {cap : Nat}
namespace FPlays
theorem le (h : FPlays w n q p A0 R wr ms mr a cap) : ms.length ≤ n := by
  obtain ⟨S, b, hc, ho, on⟩ := h.on
  rw [← hc]; exact on.le
theorem ok (h : FPlays w n q p A0 R wr ms mr a cap) : ∀ x ∈ ms, x.ok := by
  obtain ⟨S, b, hc, ho, on⟩ := h.on
  exact on.ok
theorem ltq (h : FPlays w n q p A0 R wr ms mr a cap) : q < wr.heap.size := by
  obtain ⟨S, b, hc, ho, on⟩ := h.on
  exact on.fr.ltq
theorem ltb (h : FPlays w n q p A0 R wr ms mr a cap) : R.buf < wr.heap.size := by
  obtain ⟨S, b, hc, ho, on⟩ := h.on
  exact on.ar.ltb
theorem ltf (h : FPlays w n q p A0 R wr ms mr a cap) : ∀ k, (k = q ∨ fp R p k) → k < wr.heap.size := by
  obtain ⟨S, b, hc, ho, on⟩ := h.on
  rintro k (rfl | hk)
  · exact on.fr.ltq
  · exact on.ar.lt_fp hk
theorem step (h : FPlays w n q p A0 R wr ms mr a cap) (t : Touch (fun k => k = q ∨ k = R.buf) wr w') (on : ∃ S b, S.cells = n ∧ S.o = 0 ∧ FOn w' q p S { A0 with b := b } R m') : FPlays w n q p A0 R w' m' mr a cap :=
  ⟨on, h.row.kept t (fun k hk => hk.imp id (fun e => .inr (.inl e))), h.bel.trans (SChg.below t h.bel.size h.hq h.F), h.hq, h.F⟩
theorem fresh (h : FPlays w n q p A0 R wr ms mr a cap) (t : Touch (fun _ => False) wr w') : FPlays w n q p A0 R w' ms mr a cap :=
  h.step (t.mono (fun _ _ h => h.elim)) (by
    obtain ⟨S, b, hc, ho, on⟩ := h.on
    exact ⟨S, b, hc, ho, on.fresh t⟩)
theorem same (h : FPlays w n q p A0 R wr ms mr a cap) (v : Value) (t : Touch (fun _ => False) wr w') : FTo w n q p A0 R wr ms mr a cap v (.returned v) w' := ⟨rfl, h.fresh t, t.mono (fun _ _ h => h.elim)⟩
theorem built (h : FPlays w n q p A0 R wr ms mr a cap) {w2 : World} {a' : Option Addr} {i cap' : Nat} {l : List Fm} (hb : EBld FE wr w2 a' i cap' l) (hi : i = l.length) : FPlays w n q p A0 R w2 ms l a' cap' :=
  ⟨(h.fresh hb.t).on, hb.row hi h.bel.size h.ltf, (h.fresh hb.t).bel, h.hq, h.F⟩
theorem rowed (h : FPlays w n q p A0 R wr ms mr a cap) {w2 : World} {a' : Option Addr} {cap' : Nat} {l : List Fm} (r : ERow FE w.heap.size w2 (fun k => k = q ∨ fp R p k) a' cap' l) (t : Touch (fun k => w.heap.size ≤ k ∧ ¬ (k = q ∨ fp R p k)) wr w2) : FPlays w n q p A0 R w2 ms l a' cap' := by
  obtain ⟨S, b, hc, ho, on⟩ := h.on
  exact ⟨⟨S, b, hc, ho, on.kept t (fun e => e.2 (.inl rfl)) (fun k hk e => e.2 (.inr hk))⟩, r, h.bel.trans (t.toBelow h.bel.size (fun k hk => hk.1)), h.hq, h.F⟩
theorem chg (h : FPlays w n q p A0 R wr ms mr a cap) {S : Sk} {b : List Int} (hc : S.cells = n) (ho : S.o = 0) {v : Value} {e : Ending} (c : FChg q p S { A0 with b := b } R m' v wr e w') : FTo w n q p A0 R wr m' mr a cap v e w' := by
  obtain ⟨S', b', rfl, o1, o2, on', t⟩ := c
  exact ⟨rfl, h.step t ⟨S', b', by rw [o2, hc], by rw [o1, ho], on'⟩, t⟩

theorem push (h : FPlays w n q p A0 R wr ms mr a cap) (x : Fm) (hx : x.ok) (hl : ms.length < n) : Calls Try.prog 37 #[.pointer (some ⟨q, 0, Option.none⟩), .agg x.cells] wr (FTo w n q p A0 R wr (ms ++ [x]) mr a cap (.int .i64 0)) := by
  obtain ⟨S, b, hc, ho, on⟩ := h.on
  exact (fpush on x hx (by omega)).mono fun e w' c => h.chg hc ho c
theorem pushArg (h : FPlays w n q p A0 R wr ms mr a cap) (x y u : Int) (hx : okI x y u = false) : Calls Try.prog 37 #[.pointer (some ⟨q, 0, Option.none⟩), .agg #[.int .i64 x, .int .i64 y, .int .i64 u]] wr (FTo w n q p A0 R wr ms mr a cap (.int .i64 1)) := by
  obtain ⟨S, b, hc, ho, on⟩ := h.on
  exact (fpush_arg on x y u hx).mono fun e w' c => by obtain ⟨rfl, t⟩ := c; exact h.same _ t
theorem pushFull (h : FPlays w n q p A0 R wr ms mr a cap) (x : Fm) (hx : x.ok) (hl : ms.length = n) : Calls Try.prog 37 #[.pointer (some ⟨q, 0, Option.none⟩), .agg x.cells] wr (FTo w n q p A0 R wr ms mr a cap (.int .i64 11)) := by
  obtain ⟨S, b, hc, ho, on⟩ := h.on
  exact (fpush_full on x hx (by omega)).mono fun e w' c => by obtain ⟨rfl, t⟩ := c; exact h.same _ t
theorem pop (h : FPlays w n q p A0 R wr ms mr a cap) (x : Fm) (hm : ms = m' ++ [x]) : Calls Try.prog 38 #[.pointer (some ⟨q, 0, Option.none⟩)] wr (FTo w n q p A0 R wr m' mr a cap (.tuple #[.agg x.cells, .int .i64 0])) := by
  obtain ⟨S, b, hc, ho, on⟩ := h.on
  subst hm
  exact (fpop on).mono fun e w' c => h.chg hc ho c
theorem popE (h : FPlays w n q p A0 R wr [] mr a cap) : Calls Try.prog 38 #[.pointer (some ⟨q, 0, Option.none⟩)] wr (FTo w n q p A0 R wr [] mr a cap (.tuple #[.agg z3, .int .i64 2])) := by
  obtain ⟨S, b, hc, ho, on⟩ := h.on
  exact (fpop_range on).mono fun e w' c => by obtain ⟨rfl, t⟩ := c; exact h.same _ t
theorem top (h : FPlays w n q p A0 R wr ms mr a cap) (x : Fm) (hm : ms = m' ++ [x]) : Calls Try.prog 45 #[.pointer (some ⟨q, 0, Option.none⟩)] wr (FTo w n q p A0 R wr ms mr a cap (.tuple #[.agg x.cells, .int .i64 0])) := by
  obtain ⟨S, b, hc, ho, on⟩ := h.on
  subst hm
  exact (ftop_ok on).mono fun e w' c => by obtain ⟨rfl, t⟩ := c; exact h.same _ t
theorem topE (h : FPlays w n q p A0 R wr [] mr a cap) : Calls Try.prog 45 #[.pointer (some ⟨q, 0, Option.none⟩)] wr (FTo w n q p A0 R wr [] mr a cap (.tuple #[.agg z3, .int .i64 2])) := by
  obtain ⟨S, b, hc, ho, on⟩ := h.on
  exact (ftop_range on).mono fun e w' c => by obtain ⟨rfl, t⟩ := c; exact h.same _ t
theorem go (h : FPlays w n q p A0 R wr ms mr a cap) (x : Fm) (hm : ms = m' ++ [x]) (pl : Nat) (hpl : pl ≤ 4294967295) : Calls Try.prog 40 #[.pointer (some ⟨q, 0, Option.none⟩), .int .i64 pl] wr (FTo w n q p A0 R wr (m' ++ [⟨x.f, pl, x.b⟩]) mr a cap (.int .i64 0)) := by
  obtain ⟨S, b, hc, ho, on⟩ := h.on
  subst hm
  exact (fgo on pl hpl).mono fun e w' c => h.chg hc ho c
theorem goE (h : FPlays w n q p A0 R wr [] mr a cap) (pl : Int) : Calls Try.prog 40 #[.pointer (some ⟨q, 0, Option.none⟩), .int .i64 pl] wr (FTo w n q p A0 R wr [] mr a cap (.int .i64 2)) := by
  obtain ⟨S, b, hc, ho, on⟩ := h.on
  exact (fgo_range on pl).mono fun e w' c => by obtain ⟨rfl, t⟩ := c; exact h.same _ t
theorem goArg (h : FPlays w n q p A0 R wr ms mr a cap) (x : Fm) (hm : ms = m' ++ [x]) (pl : Int) (hpl : smallN pl = false) : Calls Try.prog 40 #[.pointer (some ⟨q, 0, Option.none⟩), .int .i64 pl] wr (FTo w n q p A0 R wr ms mr a cap (.int .i64 1)) := by
  obtain ⟨S, b, hc, ho, on⟩ := h.on
  subst hm
  exact (fgo_arg on pl hpl).mono fun e w' c => by obtain ⟨rfl, t⟩ := c; exact h.same _ t
theorem atI (h : FPlays w n q p A0 R wr ms mr a cap) (i : Nat) (x : Fm) (hi : ms[i]? = some x) : Calls Try.prog 41 #[.pointer (some ⟨q, 0, Option.none⟩), .int .i64 i] wr (FTo w n q p A0 R wr ms mr a cap (.tuple #[.agg x.cells, .int .i64 0])) := by
  obtain ⟨S, b, hc, ho, on⟩ := h.on
  exact (fat_ok on i x hi).mono fun e w' c => by obtain ⟨rfl, t⟩ := c; exact h.same _ t
theorem atR (h : FPlays w n q p A0 R wr ms mr a cap) (i : Int) (hi : i < 0 ∨ (ms.length : Int) ≤ i) : Calls Try.prog 41 #[.pointer (some ⟨q, 0, Option.none⟩), .int .i64 i] wr (FTo w n q p A0 R wr ms mr a cap (.tuple #[.agg z3, .int .i64 2])) := by
  obtain ⟨S, b, hc, ho, on⟩ := h.on
  exact (fat_range on i hi).mono fun e w' c => by obtain ⟨rfl, t⟩ := c; exact h.same _ t
theorem clear (h : FPlays w n q p A0 R wr ms mr a cap) : Calls Try.prog 46 #[.pointer (some ⟨q, 0, Option.none⟩)] wr (FTo w n q p A0 R wr [] mr a cap (.tuple #[])) := by
  obtain ⟨S, b, hc, ho, on⟩ := h.on
  exact (fclear on).mono fun e w' c => h.chg hc ho c
theorem nilRow (h : FPlays w n q p A0 R wr ms mr a cap) : FPlays w n q p A0 R wr ms [] Option.none 0 := ⟨h.on, ERow.nil _ _ _ _, h.bel, h.hq, h.F⟩
theorem depth (h : FPlays w n q p A0 R wr ms mr a cap) : Calls Try.prog 39 #[.pointer (some ⟨q, 0, Option.none⟩)] wr (FTo w n q p A0 R wr ms mr a cap (.int .i64 ms.length)) := by
  obtain ⟨S, b, hc, ho, on⟩ := h.on
  rw [on.has.len]
  exact (fdepth_ok on.fr on.cl).mono fun e w' c => by obtain ⟨rfl, rfl⟩ := c; exact h.same _ (Touch.refl _ _)
/-- What closing comes to. -/
def Closed (w : World) (q p : Nat) (e : Ending) (w' : World) : Prop :=
  e = .returned (.int .i64 0) ∧ ∃ S' R' A', FrAt w' q p S' ∧ S'.closed = true ∧ ArAt w' p A' R' ∧ A'.live = 0 ∧ Below w.heap.size w w'
theorem close {c : Nat} (h : FPlays w n q p A0 R wr ms mr a cap) (hc : c ≤ 4194304) (hA : A0.taken 0 = some (c : Int) ∧ (∀ y, A0.rooms y = []) ∧ A0.live = (c : Int)) :
    Calls Try.prog 47 #[.pointer (some ⟨q, 0, Option.none⟩)] wr (Closed w q p) := by
  obtain ⟨S, b, hc', ho, on⟩ := h.on
  refine (fclose on (c : Int) (by rw [ho]; exact hA.1) (by show (A0.rooms _).length ≤ _; rw [hA.2.1]; simp) (by show _ ≤ A0.live; rw [hA.2.2]; omega) (by show A0.live ≤ _; rw [hA.2.2]; omega)).mono ?_
  rintro e w' ⟨R', rfl, s, a', t⟩
  refine ⟨rfl, _, R', _, s, rfl, a', ?_, h.bel.trans (t.toBelow h.bel.size (fun k hk => hk.elim (fun e => by rw [e]; exact h.hq) (h.F k)))⟩
  show A0.live - (c : Int) = 0
  rw [hA.2.2]; omega
end FPlays

/-- One action of frames. -/
structure FAct (w : World) (x : Addr) (i : Nat) (kind f l b : Int) : Prop where
  c0 : w.cell? (x.add (i * 4)) = some (.int .u8 kind)
  c1 : w.cell? (x.add (i * 4 + 1)) = some (.int .i64 f)
  c2 : w.cell? (x.add (i * 4 + 2)) = some (.int .i64 l)
  c3 : w.cell? (x.add (i * 4 + 3)) = some (.int .i64 b)
  w0 : (Lit.int .u8 kind).wf = true
  w1 : (Lit.int .i64 f).wf = true
  w2 : (Lit.int .i64 l).wf = true
  w3 : (Lit.int .i64 b).wf = true
def FActs (w : World) (a : Option Addr) (len : Nat) : Prop := ∀ i, i < len → ∃ x kind f l b, a = some x ∧ FAct w x i kind f l b
end Go.Proofs.Ytmjnoboeffajbaa
