/- FramePlays: the loop's frame; what is known ahead of a round. -/
import Derived.Test.YtmjnoboeffajbaaQc
namespace Go.Proofs.Ytmjnoboeffajbaa
open Go.RowKit Go.Maps
set_option linter.unusedSimpArgs false
set_option linter.unusedVariables false

/-- The body of a function's first loop. -/
def firstLoop : Code → Option Code
  | .loop c => some c
  | .seq a b => match firstLoop a with
    | some c => some c
    | Option.none => firstLoop b
  | .block _ c => firstLoop c
  | .scope c => firstLoop c
  | .cond _ a b => match firstLoop a with
    | some c => some c
    | Option.none => firstLoop b
  | _ => Option.none
noncomputable def body13 : Code := ((Try.f13.body.bind firstLoop).getD .skip)
def frame13 (u : Nat → Value) : Act := ⟨#[u 0, u 1, u 2, u 3, u 4, u 5, u 6, u 7, u 8, u 9, u 10, u 11, u 12, u 13, u 14, u 15, u 16, u 17, u 18, u 19, u 20, u 21, u 22, u 23, u 24, u 25, u 26, u 27, u 28, u 29, u 30, u 31, u 32, u 33, u 34, u 35, u 36, u 37, u 38, u 39, u 40, u 41, u 42, u 43, u 44, u 45, u 46, u 47, u 48, u 49, u 50, u 51, u 52, u 53, u 54, u 55, u 56, u 57, u 58, u 59, u 60, u 61, u 62, u 63, u 64, u 65, u 66, u 67, u 68, u 69, u 70, u 71, u 72, u 73, u 74, u 75, u 76, u 77, u 78, u 79, u 80, u 81, u 82, u 83, u 84, u 85, u 86, u 87, u 88, u 89, u 90, u 91, u 92, u 93, u 94, u 95, u 96, u 97, u 98, u 99, u 100, u 101, u 102, u 103, u 104, u 105, u 106, u 107, u 108, u 109, u 110, u 111, u 112, u 113, u 114, u 115, u 116, u 117, u 118, u 119, u 120, u 121, u 122, u 123, u 124, u 125, u 126, u 127, u 128, u 129, u 130, u 131, u 132, u 133, u 134, u 135, u 136, u 137, u 138, u 139, u 140, u 141, u 142, u 143, u 144, u 145, u 146, u 147, u 148, u 149, u 150, u 151, u 152, u 153, u 154, u 155, u 156, u 157, u 158, u 159, u 160, u 161, u 162, u 163, u 164, u 165, u 166, u 167, u 168, u 169, u 170, u 171, u 172, u 173, u 174, u 175, u 176, u 177, u 178, u 179, u 180, u 181, u 182, u 183, u 184, u 185, u 186, u 187, u 188, u 189, u 190, u 191, u 192, u 193, u 194, u 195, u 196, u 197, u 198, u 199, u 200, u 201, u 202, u 203, u 204, u 205, u 206, u 207, u 208, u 209, u 210, u 211, u 212, u 213, u 214, u 215, u 216, u 217, u 218, u 219, u 220, u 221, u 222, u 223, u 224, u 225, u 226, u 227, u 228, u 229, u 230, u 231, u 232, u 233, u 234, u 235, u 236, u 237, u 238, u 239, u 240, u 241, u 242, u 243, u 244, u 245, u 246, u 247, u 248, u 249, u 250, u 251, u 252, u 253, u 254, u 255, u 256, u 257, u 258, u 259, u 260, u 261, u 262, u 263, u 264, u 265, u 266, u 267, u 268, u 269, u 270, u 271, u 272, u 273], []⟩
def WF (Rel : (Nat → Value) → World → Prop) (a : Act) (w : World) : Prop := ∃ u, Rel u w ∧ a = frame13 u
def Fmu (k : Nat) (a : Act) (_ : World) : Nat := k - (intOf (a.tmps.getD 12 undef)).toNat
set_option maxRecDepth 100000 in
theorem frame13_list (u : Nat → Value) : (frame13 u).tmps = ((List.range 274).map u).toArray := rfl
theorem frame13_of (arr : Array Value) (hs : arr.size = 274) : (⟨arr, []⟩ : Act) = frame13 (fun i => arr.getD i undef) := by
  have e : arr = (frame13 (fun i => arr.getD i undef)).tmps := by
    rw [frame13_list]
    apply Array.ext
    · simp [hs]
    · intro i h1 h2
      simp [Array.getD, h1]
  rw [show frame13 (fun i => arr.getD i undef) = ⟨(frame13 (fun i => arr.getD i undef)).tmps, []⟩ from rfl, ← e]
theorem WF.intro {Rel : (Nat → Value) → World → Prop} {arr : Array Value} {w : World} (hs : arr.size = 274) (h : Rel (fun i => arr.getD i undef) w) : WF Rel ⟨arr, []⟩ w := ⟨_, h, frame13_of arr hs⟩
def FRel (w : World) (n q p : Nat) (A0 : Ar) (R : Rp) (a0 : Option Addr) (len0 cap0 : Nat) (u : Nat → Value) (wr : World) : Prop :=
  ∃ j ms a cap, u 11 = .slice a (List.length ms) cap ∧ u 12 = .int .i64 (j : Nat) ∧ j ≤ len0 ∧ FPlays w n q p A0 R wr ms ms a cap ∧ u 1 = .int .i64 n ∧ u 2 = .slice a0 len0 cap0 ∧ u 7 = .pointer (some ⟨p, 0, Option.none⟩) ∧ u 9 = .pointer (some ⟨q, 0, Option.none⟩) ∧ u 10 = .int .i64 0

/-- A frame in a variable of the law's own. -/
structure XFr (w : World) (z : Nat) (f l b : Int) : Prop where
  c0 : w.cell? ⟨z, 0, Option.none⟩ = some (.int .i64 f)
  c1 : w.cell? ⟨z, 1, Option.none⟩ = some (.int .i64 l)
  c2 : w.cell? ⟨z, 2, Option.none⟩ = some (.int .i64 b)
theorem XFr.kept {w w' : World} {z : Nat} {f l b : Int} (h : XFr w z f l b) {F : Nat → Prop} (t : Touch F w w') (hF : ¬ F z) : XFr w' z f l b :=
  ⟨t.cell h.c0 hF, t.cell h.c1 hF, t.cell h.c2 hF⟩
theorem XFr.new (w : World) (f l b : Int) : XFr (w.alloc (.cells #[.int .i64 f, .int .i64 l, .int .i64 b] 69)) w.heap.size f l b :=
  ⟨cell_of_row _ _ 0 _ _ _ (MapKept.heap_alloc w _).1, cell_of_row _ _ 1 _ _ _ (MapKept.heap_alloc w _).1, cell_of_row _ _ 2 _ _ _ (MapKept.heap_alloc w _).1⟩
theorem FActs.spot {w : World} {x : Addr} {len : Nat} (h : FActs w (some x) len) (h0 : 0 < len) : x.spot = Option.none := by
  obtain ⟨y, kind, f, l, b, hy, s⟩ := h 0 h0
  cases hy
  have := World.cell?_spot s.c0
  unfold Addr.add at this
  simpa using this
theorem fact_at {w wr : World} {x : Addr} {i : Nat} {kind f l b : Int} (h : FAct w x i kind f l b) (hsp : x.spot = Option.none) (B : Below w.heap.size w wr) :
    ∃ g o, x = ⟨g, o, Option.none⟩ ∧ g < w.heap.size ∧ wr.cell? ⟨g, o + i * 4, Option.none⟩ = some (.int .u8 kind) ∧ wr.cell? ⟨g, o + i * 4 + 1, Option.none⟩ = some (.int .i64 f) ∧ wr.cell? ⟨g, o + i * 4 + 2, Option.none⟩ = some (.int .i64 l) ∧ wr.cell? ⟨g, o + i * 4 + 3, Option.none⟩ = some (.int .i64 b) := by
  obtain ⟨g, o, spot⟩ := x
  have h0 := h.c0
  have hspot : spot = Option.none := hsp
  subst hspot
  have hlt : g < w.heap.size := by
    rw [Addr.add_lit] at h0
    exact World.block_lt_of_cell? w _ h0
  have c0 := h.c0
  have c1 := h.c1
  have c2 := h.c2
  have c3 := h.c3
  rw [Addr.add_lit, ← B.cell (p := ⟨g, _, Option.none⟩) hlt] at c0 c1 c2 c3
  exact ⟨g, o, rfl, hlt, c0, c1, c2, c3⟩
theorem FPlays.poke {w wr w' : World} {n q p : Nat} {A0 : Ar} {R : Rp} {ms mr : List Fm} {a : Option Addr} {cap z : Nat} (h : FPlays w n q p A0 R wr ms mr a cap) (hz : w.heap.size ≤ z) (hq : ¬ (z = q ∨ fp R p z)) (ha : ∀ g, (Value.slice a mr.length cap).ownBlock = some g → g ≠ z) (t : Touch (· = z) wr w') : FPlays w n q p A0 R w' ms mr a cap := by
  obtain ⟨S, b, hc, ho, on⟩ := h.on
  exact ⟨⟨S, b, hc, ho, on.kept t (fun e => hq (.inl e.symm)) (fun k hk e => by rw [e] at hk; exact hq (.inr hk))⟩, ⟨ownsRow_touch t h.row.own (fun k hk e => ha k hk e), h.row.off⟩, h.bel.trans (t.toBelow h.bel.size (fun k hk => by rw [hk]; exact hz)), h.hq, h.F⟩
theorem FPlays.stored {w wr : World} {n q p : Nat} {A0 : Ar} {R : Rp} {ms mr : List Fm} {g cap : Nat} (h : FPlays w n q p A0 R wr ms mr (some ⟨g, 0, Option.none⟩) cap) {i : Nat} {x : Fm} (hi : mr[i]? = some x) (pl : Nat) :
    FPlays w n q p A0 R (wr.setCell ⟨g, i * 3 + 1, Option.none⟩ (.int .i64 (pl : Int))) ms (mr.set i ⟨x.f, pl, x.b⟩) (some ⟨g, 0, Option.none⟩) cap := by
  have ho := h.row.off g rfl
  have t := Touch.cell1 wr g (i * 3 + 1) (.int .i64 (pl : Int))
  have st := h.row.stored hi (f := 1) (by decide) (u := .int .i64 (pl : Int)) (y := ⟨x.f, pl, x.b⟩) rfl
  obtain ⟨S, b, hc, ho', on⟩ := h.on
  exact ⟨⟨S, b, hc, ho', on.kept t (fun e => ho.2 (.inl e.symm)) (fun k hk e => by rw [e] at hk; exact ho.2 (.inr hk))⟩, st, h.bel.trans (t.toBelow h.bel.size (fun k hk => by rw [hk]; exact ho.1)), h.hq, h.F⟩
theorem set_last {m' : List Fm} {x y : Fm} : (m' ++ [x]).set m'.length y = m' ++ [y] := by simp

structure Fnd (w : World) (n q p : Nat) (A0 : Ar) (R : Rp) (wr : World) (u : Nat → Value) (j : Nat) (ms : List Fm) (a : Option Addr) (cap g o len0 cap0 : Nat) (kind f l b : Int) : Prop where
  u1 : u 1 = .int .i64 n
  u2 : u 2 = .slice (some ⟨g, o, Option.none⟩) len0 cap0
  u7 : u 7 = .pointer (some ⟨p, 0, Option.none⟩)
  u9 : u 9 = .pointer (some ⟨q, 0, Option.none⟩)
  u10 : u 10 = .int .i64 0
  u11 : u 11 = .slice a ms.length cap
  u12 : u 12 = .int .i64 j
  hj : j < len0
  l80 : len0 ≤ 80
  hg : g < w.heap.size
  d0 : wr.cell? ⟨g, o + j * 4, Option.none⟩ = some (.int .u8 kind)
  d1 : wr.cell? ⟨g, o + j * 4 + 1, Option.none⟩ = some (.int .i64 f)
  d2 : wr.cell? ⟨g, o + j * 4 + 2, Option.none⟩ = some (.int .i64 l)
  d3 : wr.cell? ⟨g, o + j * 4 + 3, Option.none⟩ = some (.int .i64 b)
  P : FPlays w n q p A0 R wr ms ms a cap
  kr : 0 ≤ kind ∧ kind < 256
  fr : -9223372036854775808 ≤ f ∧ f ≤ 9223372036854775807
  n1 : 1 ≤ n
  n2 : n ≤ 10000
abbrev FOut (w : World) (n q p : Nat) (A0 : Ar) (R : Rp) (j g o len0 cap0 : Nat) (K0 : Act → World → Prop) : Exit → Act → World → Prop :=
  Exit.then (fun a' w' => WF (FRel w n q p A0 R (some ⟨g, o, Option.none⟩) len0 cap0) a' w' ∧ Fmu len0 a' w' < len0 - j) (Exit.inBlock 0 (Exit.then K0 (bodyPost Try.prog Try.f13 (fun e w' => e = .returned (.bool true) ∧ Below w.heap.size w w'))))
end Go.Proofs.Ytmjnoboeffajbaa
