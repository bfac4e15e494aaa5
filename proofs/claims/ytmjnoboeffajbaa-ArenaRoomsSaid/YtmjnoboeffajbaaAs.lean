/- What an arena is in memory, told as a plain record. Conditions: none beyond those that each theorem names. -/
import Derived.Test.YtmjnoboeffajbaaMp
import Derived.BigRegion
import Derived.BigQuiet
import Derived.Deep.QuietTactic
import Derived.Deep.LoopGhost
import Derived.Laws.CopyOwn
namespace Go.Proofs.Ytmjnoboeffajbaa
open Go.RowKit Go.Maps
set_option linter.unusedSimpArgs false
set_option linter.unusedVariables false

def bytesOf (l : List Int) : Array Value := (l.map (Value.int .u8)).toArray
def ints (l : List Int) : List Value := l.map (Value.int .i64)
def vals (l : List Int) : List Value := l.map (Value.int .u8)

/-- An arena, plainly: its size, how much is cut off, how much is taken, its bytes, what rooms are taken, what rooms were given back. -/
structure Ar where
  n : Nat
  height : Nat
  live : Int
  b : List Int
  taken : Int → Option Int
  rooms : Int → List Int

/-- Where it lies: the blocks of its bytes and its two maps, what these maps hold. -/
structure Rp where
  buf : Nat
  tm : Nat
  gm : Nat
  tl : KV
  gl : List (Int × Value × List Int)

def Rp.gkv (R : Rp) : KV := R.gl.map fun x => (x.1, x.2.1)
def gget : List (Int × Value × List Int) → Int → Option (Value × List Int)
  | [], _ => Option.none
  | (k, v, xs) :: r, x => if k = x then some (v, xs) else gget r x

def Ar.cells (A : Ar) (R : Rp) : Array Value := #[.slice (some ⟨R.buf, 0, Option.none⟩) A.n A.n, .int .i64 A.height, .int .i64 A.live, .map (some R.tm), .map (some R.gm)]

structure ArAt (w : World) (p : Nat) (A : Ar) (R : Rp) : Prop where
  hp : w.heap[p]? = some (.cells (A.cells R) 94 (0, 0))
  hb : w.heap[R.buf]? = some (.cells (bytesOf A.b) 5 (0, 0))
  hbl : A.b.length = A.n
  ht : MapIs w R.tm R.tl
  hg : MapIs w R.gm R.gkv
  htg : R.tm ≠ R.gm
  ta : ∀ x, mget R.tl x = (A.taken x).map (Value.int .i64)
  ro : ∀ c, A.rooms c = ((gget R.gl c).map (·.2)).getD []
  own : ∀ x ∈ R.gl, w.ownsRow 0 3 1 x.2.1 x.2.2.length (ints x.2.2)
  nd : (R.tl.map (·.1)).Nodup
  gnd : (R.gl.map (·.1)).Nodup
  bnd : R.gl.Pairwise fun x y => ∀ k, x.2.1.ownBlock = some k → y.2.1.ownBlock ≠ some k
  hn : A.n ≤ 4194304
  hh : A.height ≤ A.n
  inT : ∀ x c, A.taken x = some c → 0 ≤ x ∧ 16 ≤ c ∧ x + c ≤ A.height
  inR : ∀ c x, x ∈ A.rooms c → 0 ≤ x ∧ 16 ≤ c ∧ x + c ≤ A.height

/-- The blocks of an arena. -/
def fp (R : Rp) (p : Nat) (k : Nat) : Prop := k = p ∨ k = R.buf ∨ k = R.tm ∨ k = R.gm ∨ ∃ x ∈ R.gl, x.2.1.ownBlock = some k

theorem gget_map : ∀ (l : List (Int × Value × List Int)) (x : Int), mget (l.map fun x => (x.1, x.2.1)) x = (gget l x).map (·.1)
  | [], _ => rfl
  | (k, v, xs) :: r, x => by
    simp only [List.map_cons, mget, gget]
    split
    · rfl
    · exact gget_map r x

theorem gget_mem : ∀ (l : List (Int × Value × List Int)) (x : Int) (v : Value) (xs : List Int), gget l x = some (v, xs) → (x, v, xs) ∈ l
  | [], _, _, _, h => by cases h
  | (k, v', xs') :: r, x, v, xs, h => by
    unfold gget at h
    split at h
    · rename_i hk
      cases h; subst hk; exact List.mem_cons_self
    · exact List.mem_cons_of_mem _ (gget_mem r x v xs h)

theorem gget_none : ∀ (l : List (Int × Value × List Int)) (x : Int), gget l x = Option.none ↔ x ∉ l.map (·.1)
  | [], _ => by simp [gget]
  | (k, v, xs) :: r, x => by
    unfold gget
    by_cases hx : k = x
    · simp [hx]
    · simp only [hx, if_false, gget_none r x, List.map_cons, List.mem_cons]
      exact ⟨fun h h' => h'.elim (fun e => hx e.symm) h, fun h h' => h (.inr h')⟩

/-- The place of a block's first cell. -/
abbrev at0 (b : Nat) : Addr := ⟨b, 0, Option.none⟩

namespace ArAt
variable {w w' : World} {p : Nat} {A : Ar} {R : Rp}

theorem cell (h : ArAt w p A R) (j : Nat) : w.cell? ⟨p, j, Option.none⟩ = (A.cells R)[j]? := cell_of_row w p j _ _ _ h.hp
theorem c0 (h : ArAt w p A R) : w.cell? ⟨p, 0, Option.none⟩ = some (.slice (some ⟨R.buf, 0, Option.none⟩) A.n A.n) := h.cell 0
theorem c1 (h : ArAt w p A R) : w.cell? ⟨p, 1, Option.none⟩ = some (.int .i64 A.height) := h.cell 1
theorem c2 (h : ArAt w p A R) : w.cell? ⟨p, 2, Option.none⟩ = some (.int .i64 A.live) := h.cell 2
theorem c3 (h : ArAt w p A R) : w.cell? ⟨p, 3, Option.none⟩ = some (.map (some R.tm)) := h.cell 3
theorem c4 (h : ArAt w p A R) : w.cell? ⟨p, 4, Option.none⟩ = some (.map (some R.gm)) := h.cell 4
theorem fz (h : ArAt w p A R) (j : Nat) : w.frozen? ⟨p, j, Option.none⟩ = false := by simp [World.frozen?, h.hp]
theorem ltp (h : ArAt w p A R) : p < w.heap.size := (Array.getElem?_eq_some_iff.1 h.hp).1
theorem ltb (h : ArAt w p A R) : R.buf < w.heap.size := (Array.getElem?_eq_some_iff.1 h.hb).1
theorem ltt (h : ArAt w p A R) : R.tm < w.heap.size := h.ht.lt
theorem ltg (h : ArAt w p A R) : R.gm < w.heap.size := h.hg.lt

theorem own_heap {x : Int × Value × List Int} (h : w.ownsRow 0 3 1 x.2.1 x.2.2.length (ints x.2.2)) {k : Nat} (hk : x.2.1.ownBlock = some k) : ∃ cur, w.heap[k]? = some (.cells cur 3 (0, 0)) := by
  rcases h.2 with ⟨hv, _⟩ | ⟨g, cap, cur, hv, _, hg, _⟩
  · rw [hv] at hk; simp [Value.ownBlock] at hk
  · rw [hv] at hk; simp [Value.ownBlock] at hk; subst hk; exact ⟨cur, hg⟩

theorem ltr (h : ArAt w p A R) {x : Int × Value × List Int} (hx : x ∈ R.gl) {k : Nat} (hk : x.2.1.ownBlock = some k) : k < w.heap.size := by
  obtain ⟨cur, hc⟩ := own_heap (h.own x hx) hk
  exact (Array.getElem?_eq_some_iff.1 hc).1

theorem lt_fp (h : ArAt w p A R) {k : Nat} (hk : fp R p k) : k < w.heap.size := by
  rcases hk with rfl | rfl | rfl | rfl | ⟨x, hx, hk⟩
  · exact h.ltp
  · exact h.ltb
  · exact h.ltt
  · exact h.ltg
  · exact h.ltr hx hk

theorem pb (h : ArAt w p A R) : p ≠ R.buf := by
  intro e
  have := h.hb
  rw [← e, h.hp] at this; simp at this
theorem pt (h : ArAt w p A R) : p ≠ R.tm := by
  intro e
  obtain ⟨es, c, hb, _⟩ := h.ht
  rw [← e, h.hp] at hb; cases hb
theorem pg (h : ArAt w p A R) : p ≠ R.gm := by
  intro e
  obtain ⟨es, c, hb, _⟩ := h.hg
  rw [← e, h.hp] at hb; cases hb
theorem bt (h : ArAt w p A R) : R.buf ≠ R.tm := by
  intro e
  obtain ⟨es, c, hb, _⟩ := h.ht
  rw [← e, h.hb] at hb; cases hb
theorem bg (h : ArAt w p A R) : R.buf ≠ R.gm := by
  intro e
  obtain ⟨es, c, hb, _⟩ := h.hg
  rw [← e, h.hb] at hb; cases hb
theorem rp (h : ArAt w p A R) {x : Int × Value × List Int} (hx : x ∈ R.gl) : x.2.1.ownBlock ≠ some p := by
  intro hk
  obtain ⟨cur, hc⟩ := own_heap (h.own x hx) hk
  rw [h.hp] at hc; simp at hc
theorem rb (h : ArAt w p A R) {x : Int × Value × List Int} (hx : x ∈ R.gl) : x.2.1.ownBlock ≠ some R.buf := by
  intro hk
  obtain ⟨cur, hc⟩ := own_heap (h.own x hx) hk
  rw [h.hb] at hc; simp at hc
theorem rt (h : ArAt w p A R) {x : Int × Value × List Int} (hx : x ∈ R.gl) : x.2.1.ownBlock ≠ some R.tm := by
  intro hk
  obtain ⟨cur, hc⟩ := own_heap (h.own x hx) hk
  obtain ⟨es, c, hb, _⟩ := h.ht
  rw [hb] at hc; cases hc
theorem rg (h : ArAt w p A R) {x : Int × Value × List Int} (hx : x ∈ R.gl) : x.2.1.ownBlock ≠ some R.gm := by
  intro hk
  obtain ⟨cur, hc⟩ := own_heap (h.own x hx) hk
  obtain ⟨es, c, hb, _⟩ := h.hg
  rw [hb] at hc; cases hc

end ArAt

theorem ownsRow_touch {w w' : World} {F : Nat → Prop} (t : Touch F w w') {base : Nat} {e size n : Nat} {v : Value} {xs : List Value} (h : w.ownsRow base e size v n xs) (hF : ∀ k, v.ownBlock = some k → ¬ F k) : w'.ownsRow base e size v n xs := by
  refine ⟨h.1, ?_⟩
  rcases h.2 with hn | ⟨g, cap, cur, rfl, hb, hg, r⟩
  · exact .inl hn
  · exact .inr ⟨g, cap, cur, rfl, hb, t.heap (hF g rfl) hg, r⟩

namespace ArAt
variable {w w' : World} {p : Nat} {A : Ar} {R : Rp}

/-- What leaves an arena's blocks leaves the arena. -/
theorem kept (h : ArAt w p A R) {F : Nat → Prop} (t : Touch F w w') (hF : ∀ k, fp R p k → ¬ F k) : ArAt w' p A R where
  hp := t.heap (hF p (.inl rfl)) h.hp
  hb := t.heap (hF _ (.inr (.inl rfl))) h.hb
  hbl := h.hbl
  ht := t.map (hF _ (.inr (.inr (.inl rfl)))) h.ht
  hg := t.map (hF _ (.inr (.inr (.inr (.inl rfl))))) h.hg
  htg := h.htg
  ta := h.ta
  ro := h.ro
  own x hx := ownsRow_touch t (h.own x hx) (fun k hk => hF k (.inr (.inr (.inr (.inr ⟨x, hx, hk⟩)))))
  nd := h.nd
  gnd := h.gnd
  bnd := h.bnd
  hn := h.hn
  hh := h.hh
  inT := h.inT
  inR := h.inR

theorem drewN (h : ArAt w p A R) (n : Nat) : ArAt (w.drewN n) p A R := h.kept (Touch.drewN (fun _ => False) w n) (fun _ _ h => h)
theorem drew (h : ArAt w p A R) : ArAt w.drew p A R := h.kept (Touch.drew (fun _ => False) w) (fun _ _ h => h)

/-- A number of it is stored. -/
theorem stored (h : ArAt w p A R) {A' : Ar} (j : Nat) (v : Value) (hc' : (A.cells R).setIfInBounds j v = A'.cells R) (e1 : A'.n = A.n) (e2 : A'.b = A.b) (e3 : A'.taken = A.taken) (e4 : A'.rooms = A.rooms) (e5 : A.height ≤ A'.height) (e6 : A'.height ≤ A.n) :
    ArAt (w.setCell ⟨p, j, Option.none⟩ v) p A' R := by
  have t : Touch (· = p) w (w.setCell ⟨p, j, Option.none⟩ v) := Touch.cell1 w p j v
  refine ⟨?_, ?_, by rw [e1, e2]; exact h.hbl, t.map (fun e => h.pt e.symm) h.ht, t.map (fun e => h.pg e.symm) h.hg, h.htg, by rw [e3]; exact h.ta, by rw [e4]; exact h.ro, ?_, h.nd, h.gnd, h.bnd, by rw [e1]; exact h.hn, by rw [e1]; exact e6, ?_, ?_⟩
  · rw [← hc']
    simp [World.setCell, Array.getElem?_modify, h.hp]
  · rw [e2]; exact t.heap (fun e => h.pb e.symm) h.hb
  · exact fun x hx => ownsRow_touch t (h.own x hx) (fun k hk e => h.rp hx (by rw [hk, e]))
  · intro x c hx; rw [e3] at hx; have := h.inT x c hx; omega
  · intro c x hx; rw [e4] at hx; have := h.inR c x hx; omega
end ArAt
end Go.Proofs.Ytmjnoboeffajbaa
