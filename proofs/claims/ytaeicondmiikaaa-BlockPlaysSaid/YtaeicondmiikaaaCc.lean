/- BlockPlays: the loop's frame; what is known ahead of a round. -/
import Derived.Test.YtaeicondmiikaaaCb
import Derived.DataShut
namespace Go.Proofs.Ytaeicondmiikaaa
open Go.RowKit Go.Maps
set_option linter.unusedSimpArgs false
set_option linter.unusedVariables false

/-- The body of a function's first loop. -/
def firstLoop : Code → Option Code
  | .loop c => some c
  | .seq a b => match firstLoop a with
    | some c => some c
    | Option.none => firstLoop b
  | .block _ c => firstLoop c
  | .scope c => firstLoop c
  | .cond _ a b => match firstLoop a with
    | some c => some c
    | Option.none => firstLoop b
  | _ => Option.none
noncomputable def body6 : Code := ((Try.f6.body.bind firstLoop).getD .skip)
def frame6 (u : Nat → Value) : Act := ⟨#[u 0, u 1, u 2, u 3, u 4, u 5, u 6, u 7, u 8, u 9, u 10, u 11, u 12, u 13, u 14, u 15, u 16, u 17, u 18, u 19, u 20, u 21, u 22, u 23, u 24, u 25, u 26, u 27, u 28, u 29, u 30, u 31, u 32, u 33, u 34, u 35, u 36, u 37, u 38, u 39, u 40, u 41, u 42, u 43, u 44, u 45, u 46, u 47, u 48, u 49, u 50, u 51, u 52, u 53, u 54, u 55, u 56, u 57, u 58, u 59, u 60, u 61, u 62, u 63, u 64, u 65, u 66, u 67, u 68, u 69, u 70, u 71, u 72, u 73, u 74, u 75, u 76, u 77, u 78, u 79, u 80, u 81, u 82, u 83, u 84, u 85, u 86, u 87, u 88, u 89, u 90, u 91, u 92, u 93, u 94, u 95, u 96, u 97, u 98, u 99, u 100, u 101, u 102, u 103, u 104, u 105, u 106, u 107, u 108, u 109, u 110, u 111, u 112, u 113, u 114, u 115, u 116, u 117, u 118, u 119, u 120, u 121, u 122, u 123, u 124, u 125, u 126, u 127, u 128, u 129, u 130, u 131, u 132, u 133, u 134, u 135, u 136, u 137, u 138, u 139, u 140, u 141, u 142, u 143, u 144, u 145, u 146, u 147, u 148, u 149, u 150, u 151, u 152, u 153, u 154, u 155, u 156, u 157, u 158, u 159, u 160, u 161, u 162, u 163, u 164, u 165, u 166, u 167, u 168, u 169, u 170, u 171, u 172, u 173, u 174, u 175, u 176, u 177, u 178, u 179, u 180, u 181, u 182, u 183, u 184, u 185, u 186, u 187, u 188, u 189, u 190, u 191, u 192, u 193, u 194, u 195, u 196, u 197, u 198, u 199, u 200, u 201, u 202, u 203, u 204, u 205, u 206, u 207, u 208, u 209, u 210, u 211, u 212, u 213, u 214, u 215, u 216, u 217, u 218, u 219, u 220, u 221, u 222, u 223, u 224, u 225, u 226, u 227, u 228, u 229, u 230, u 231, u 232, u 233, u 234, u 235, u 236, u 237, u 238, u 239, u 240, u 241, u 242, u 243, u 244, u 245, u 246, u 247, u 248, u 249, u 250, u 251, u 252, u 253, u 254, u 255, u 256, u 257, u 258, u 259, u 260, u 261, u 262, u 263, u 264, u 265, u 266, u 267, u 268, u 269, u 270, u 271, u 272, u 273, u 274, u 275, u 276, u 277, u 278, u 279, u 280, u 281, u 282, u 283, u 284, u 285, u 286, u 287, u 288, u 289, u 290, u 291, u 292, u 293, u 294, u 295, u 296, u 297, u 298, u 299, u 300, u 301, u 302, u 303, u 304, u 305, u 306, u 307, u 308, u 309, u 310, u 311, u 312, u 313, u 314, u 315, u 316, u 317, u 318, u 319, u 320, u 321, u 322, u 323, u 324, u 325, u 326, u 327, u 328, u 329, u 330, u 331, u 332, u 333, u 334, u 335, u 336, u 337, u 338, u 339, u 340, u 341, u 342, u 343, u 344, u 345, u 346, u 347, u 348, u 349, u 350, u 351, u 352, u 353, u 354, u 355, u 356, u 357, u 358, u 359, u 360, u 361, u 362, u 363, u 364, u 365, u 366, u 367, u 368, u 369, u 370, u 371, u 372, u 373, u 374, u 375, u 376, u 377, u 378, u 379, u 380, u 381, u 382, u 383], []⟩
def WB (Rel : (Nat → Value) → World → Prop) (a : Act) (w : World) : Prop := ∃ u, Rel u w ∧ a = frame6 u
def Bmu (k : Nat) (a : Act) (_ : World) : Nat := k - (intOf (a.tmps.getD 16 undef)).toNat
set_option maxRecDepth 100000 in
theorem frame6_list (u : Nat → Value) : (frame6 u).tmps = ((List.range 384).map u).toArray := rfl
theorem frame6_of (arr : Array Value) (hs : arr.size = 384) : (⟨arr, []⟩ : Act) = frame6 (fun i => arr.getD i undef) := by
  have e : arr = (frame6 (fun i => arr.getD i undef)).tmps := by
    rw [frame6_list]
    apply Array.ext
    · simp [hs]
    · intro i h1 h2
      simp [Array.getD, h1]
  rw [show frame6 (fun i => arr.getD i undef) = ⟨(frame6 (fun i => arr.getD i undef)).tmps, []⟩ from rfl, ← e]
theorem WB.intro {Rel : (Nat → Value) → World → Prop} {arr : Array Value} {w : World} (hs : arr.size = 384) (h : Rel (fun i => arr.getD i undef) w) : WB Rel ⟨arr, []⟩ w := ⟨_, h, frame6_of arr hs⟩
def BRel (w : World) (size cap : Nat) (fail : Int) (k gl p bm : Nat) (a0 : Option Addr) (len0 cap0 : Nat) (u : Nat → Value) (wr : World) : Prop :=
  ∃ (j : Nat) (S : St) (l : List Pg), u 12 = .int .i64 (S.m.length : Nat) ∧ u 13 = .int .i64 S.peak ∧ u 14 = .int .i64 S.ops ∧ u 15 = .bool S.failed ∧ u 16 = .int .i64 j ∧ j ≤ len0 ∧ BPlays w size cap fail k gl p bm wr S l l j ∧
    u 0 = .int .i64 size ∧ u 1 = .int .i64 cap ∧ u 2 = .int .i64 fail ∧ u 3 = .slice a0 len0 cap0 ∧ u 9 = .pointer (some ⟨p, 0, Option.none⟩) ∧ u 11 = .slice (some ⟨gl, 0, Option.none⟩) k k

structure BAct (w : World) (x : Addr) (i : Nat) (kind id n : Int) (lg : Bool) : Prop where
  c0 : w.cell? (x.add (i * 4)) = some (.int .u8 kind)
  c1 : w.cell? (x.add (i * 4 + 1)) = some (.int .i64 id)
  c2 : w.cell? (x.add (i * 4 + 2)) = some (.int .i64 n)
  c3 : w.cell? (x.add (i * 4 + 3)) = some (.bool lg)
  w0 : (Lit.int .u8 kind).wf = true
  w1 : (Lit.int .i64 id).wf = true
def BActs (w : World) (a : Option Addr) (len : Nat) : Prop := ∀ i, i < len → ∃ x kind id n lg, a = some x ∧ BAct w x i kind id n lg
theorem BActs.spot {w : World} {x : Addr} {len : Nat} (h : BActs w (some x) len) (h0 : 0 < len) : x.spot = Option.none := by
  obtain ⟨y, kind, id, n, lg, hy, s⟩ := h 0 h0
  cases hy
  have := World.cell?_spot s.c0
  unfold Addr.add at this
  simpa using this
theorem bact_at {w wr : World} {x : Addr} {i : Nat} {kind id n : Int} {lg : Bool} (h : BAct w x i kind id n lg) (hsp : x.spot = Option.none) (B : Below w.heap.size w wr) :
    ∃ g o, x = ⟨g, o, Option.none⟩ ∧ wr.cell? ⟨g, o + i * 4, Option.none⟩ = some (.int .u8 kind) ∧ wr.cell? ⟨g, o + i * 4 + 1, Option.none⟩ = some (.int .i64 id) ∧ wr.cell? ⟨g, o + i * 4 + 2, Option.none⟩ = some (.int .i64 n) ∧ wr.cell? ⟨g, o + i * 4 + 3, Option.none⟩ = some (.bool lg) := by
  obtain ⟨g, o, spot⟩ := x
  have h0 := h.c0
  have hspot : spot = Option.none := hsp
  subst hspot
  have hlt : g < w.heap.size := by
    rw [Addr.add_lit] at h0
    exact World.block_lt_of_cell? w _ h0
  have c0 := h.c0
  have c1 := h.c1
  have c2 := h.c2
  have c3 := h.c3
  rw [Addr.add_lit, ← B.cell (p := ⟨g, _, Option.none⟩) hlt] at c0 c1 c2 c3
  exact ⟨g, o, rfl, c0, c1, c2, c3⟩
/-- An action in a variable of the law's own. -/
structure XB (w : World) (z : Nat) (kind id n : Int) (lg : Bool) : Prop where
  c0 : w.cell? ⟨z, 0, Option.none⟩ = some (.int .u8 kind)
  c1 : w.cell? ⟨z, 1, Option.none⟩ = some (.int .i64 id)
  c2 : w.cell? ⟨z, 2, Option.none⟩ = some (.int .i64 n)
  c3 : w.cell? ⟨z, 3, Option.none⟩ = some (.bool lg)
theorem XB.new (w : World) (kind id n : Int) (lg : Bool) : XB (w.alloc (.cells #[.int .u8 kind, .int .i64 id, .int .i64 n, .bool lg] 42)) w.heap.size kind id n lg :=
  ⟨cell_of_row _ _ 0 _ _ _ (MapKept.heap_alloc w _).1, cell_of_row _ _ 1 _ _ _ (MapKept.heap_alloc w _).1, cell_of_row _ _ 2 _ _ _ (MapKept.heap_alloc w _).1, cell_of_row _ _ 3 _ _ _ (MapKept.heap_alloc w _).1⟩
theorem Touch.keep {F : Nat → Prop} {w w' : World} (t : Touch F w w') {a : Addr} {v : Value} (h : w.cell? a = some v) (hF : ¬ F a.block) : w'.cell? a = some v := t.cell h hF
theorem XB.kept {w w' : World} {z : Nat} {kind id n : Int} {lg : Bool} (h : XB w z kind id n lg) {F : Nat → Prop} (t : Touch F w w') (hF : ¬ F z) : XB w' z kind id n lg := ⟨t.keep h.c0 hF, t.keep h.c1 hF, t.keep h.c2 hF, t.keep h.c3 hF⟩
theorem u8_range {n : Int} (h : (Lit.int .u8 n).wf = true) : 0 ≤ n ∧ n < 256 := by
  have := (Lit.wf_int_iff _ _).1 h
  rw [show IntKind.u8.min = 0 from rfl, show IntKind.u8.max = 255 from rfl] at this
  omega

structure Brd (w : World) (size cap : Nat) (fail : Int) (k gl p bm : Nat) (wr : World) (u : Nat → Value) (j : Nat) (S : St) (l : List Pg) (g o len0 cap0 : Nat) (kind id xn : Int) (lg : Bool) : Prop where
  u0 : u 0 = .int .i64 size
  u1 : u 1 = .int .i64 cap
  u2 : u 2 = .int .i64 fail
  u3 : u 3 = .slice (some ⟨g, o, Option.none⟩) len0 cap0
  u9 : u 9 = .pointer (some ⟨p, 0, Option.none⟩)
  u11 : u 11 = .slice (some ⟨gl, 0, Option.none⟩) k k
  u12 : u 12 = .int .i64 (S.m.length : Nat)
  u13 : u 13 = .int .i64 S.peak
  u14 : u 14 = .int .i64 S.ops
  u15 : u 15 = .bool S.failed
  u16 : u 16 = .int .i64 j
  hj : j < len0
  l60 : len0 ≤ 60
  d0 : wr.cell? ⟨g, o + j * 4, Option.none⟩ = some (.int .u8 kind)
  d1 : wr.cell? ⟨g, o + j * 4 + 1, Option.none⟩ = some (.int .i64 id)
  d2 : wr.cell? ⟨g, o + j * 4 + 2, Option.none⟩ = some (.int .i64 xn)
  d3 : wr.cell? ⟨g, o + j * 4 + 3, Option.none⟩ = some (.bool lg)
  P : BPlays w size cap fail k gl p bm wr S l l j
  kr : 0 ≤ kind ∧ kind < 256
  sz : 16 ≤ size ∧ size ≤ 1024
abbrev BOut (w : World) (size cap : Nat) (fail : Int) (k gl p bm : Nat) (j g o len0 cap0 : Nat) (K0 : Act → World → Prop) : Exit → Act → World → Prop :=
  Exit.then (fun a' w' => WB (BRel w size cap fail k gl p bm (some ⟨g, o, Option.none⟩) len0 cap0) a' w' ∧ Bmu len0 a' w' < len0 - j) (Exit.inBlock 0 (Exit.then K0 (bodyPost Try.prog Try.f6 (fun e w' => e = .returned (.bool true) ∧ Below w.heap.size w w'))))
end Go.Proofs.Ytaeicondmiikaaa
