/- ArenaRooms: the loop's frame; what is known ahead of a round. -/
import Derived.Test.YtmjnoboeffajbaaRb
namespace Go.Proofs.Ytmjnoboeffajbaa
open Go.RowKit Go.Maps
set_option linter.unusedSimpArgs false
set_option linter.unusedVariables false

/-- The body of a function's first loop. -/
def firstLoop : Code → Option Code
  | .loop c => some c
  | .seq a b => match firstLoop a with
    | some c => some c
    | Option.none => firstLoop b
  | .block _ c => firstLoop c
  | .scope c => firstLoop c
  | .cond _ a b => match firstLoop a with
    | some c => some c
    | Option.none => firstLoop b
  | _ => Option.none
noncomputable def body4 : Code := ((Try.f4.body.bind firstLoop).getD .skip)
def frame4 (u : Nat → Value) : Act := ⟨#[u 0, u 1, u 2, u 3, u 4, u 5, u 6, u 7, u 8, u 9, u 10, u 11, u 12, u 13, u 14, u 15, u 16, u 17, u 18, u 19, u 20, u 21, u 22, u 23, u 24, u 25, u 26, u 27, u 28, u 29, u 30, u 31, u 32, u 33, u 34, u 35, u 36, u 37, u 38, u 39, u 40, u 41, u 42, u 43, u 44, u 45, u 46, u 47, u 48, u 49, u 50, u 51, u 52, u 53, u 54, u 55, u 56, u 57, u 58, u 59, u 60, u 61, u 62, u 63, u 64, u 65, u 66, u 67, u 68, u 69, u 70, u 71, u 72, u 73, u 74, u 75, u 76, u 77, u 78, u 79, u 80, u 81, u 82, u 83, u 84, u 85, u 86, u 87, u 88, u 89, u 90, u 91, u 92, u 93, u 94, u 95, u 96, u 97, u 98, u 99, u 100, u 101, u 102, u 103, u 104, u 105, u 106, u 107, u 108, u 109, u 110, u 111, u 112, u 113, u 114, u 115, u 116, u 117, u 118, u 119, u 120, u 121, u 122, u 123, u 124, u 125, u 126, u 127, u 128, u 129, u 130, u 131, u 132, u 133, u 134, u 135, u 136, u 137, u 138, u 139, u 140, u 141, u 142, u 143, u 144, u 145, u 146, u 147, u 148, u 149, u 150, u 151, u 152, u 153, u 154, u 155, u 156, u 157, u 158, u 159, u 160, u 161, u 162, u 163, u 164, u 165, u 166, u 167, u 168, u 169, u 170, u 171, u 172, u 173, u 174, u 175, u 176, u 177, u 178, u 179, u 180, u 181, u 182, u 183, u 184, u 185, u 186, u 187, u 188, u 189, u 190, u 191, u 192, u 193, u 194, u 195, u 196, u 197, u 198, u 199, u 200, u 201, u 202, u 203, u 204, u 205, u 206, u 207, u 208, u 209, u 210, u 211, u 212, u 213, u 214, u 215, u 216, u 217, u 218, u 219, u 220, u 221, u 222, u 223, u 224, u 225, u 226, u 227, u 228, u 229, u 230, u 231, u 232, u 233, u 234, u 235, u 236, u 237, u 238, u 239, u 240, u 241, u 242, u 243, u 244, u 245, u 246, u 247, u 248, u 249, u 250, u 251, u 252, u 253, u 254, u 255, u 256, u 257, u 258, u 259, u 260, u 261, u 262, u 263, u 264, u 265, u 266, u 267, u 268, u 269, u 270, u 271, u 272, u 273, u 274, u 275, u 276, u 277, u 278, u 279, u 280], []⟩
def WR (Rel : (Nat → Value) → World → Prop) (a : Act) (w : World) : Prop := ∃ u, Rel u w ∧ a = frame4 u
def Rmu (k : Nat) (a : Act) (_ : World) : Nat := k - (intOf (a.tmps.getD 10 undef)).toNat
set_option maxRecDepth 100000 in
theorem frame4_list (u : Nat → Value) : (frame4 u).tmps = ((List.range 281).map u).toArray := rfl
theorem frame4_of (arr : Array Value) (hs : arr.size = 281) : (⟨arr, []⟩ : Act) = frame4 (fun i => arr.getD i undef) := by
  have e : arr = (frame4 (fun i => arr.getD i undef)).tmps := by
    rw [frame4_list]
    apply Array.ext
    · simp [hs]
    · intro i h1 h2
      simp [Array.getD, h1]
  rw [show frame4 (fun i => arr.getD i undef) = ⟨(frame4 (fun i => arr.getD i undef)).tmps, []⟩ from rfl, ← e]
theorem WR.intro {Rel : (Nat → Value) → World → Prop} {arr : Array Value} {w : World} (hs : arr.size = 281) (h : Rel (fun i => arr.getD i undef) w) : WR Rel ⟨arr, []⟩ w := ⟨_, h, frame4_of arr hs⟩
def RRel (w : World) (n p : Nat) (a0 : Option Addr) (len0 cap0 : Nat) (u : Nat → Value) (wr : World) : Prop :=
  ∃ (j : Nat) (A : Ar) (R : Rp) (l : List Rm) (a : Option Addr) (cap : Nat), u 7 = .slice a l.length cap ∧ u 8 = .int .i64 A.height ∧ u 9 = .int .i64 A.live ∧ u 10 = .int .i64 j ∧ j ≤ len0 ∧ RPlays w n p wr A R l l a cap j ∧ u 0 = .int .i64 n ∧ u 1 = .slice a0 len0 cap0 ∧ u 5 = .pointer (some ⟨p, 0, Option.none⟩)

structure RAct (w : World) (x : Addr) (i : Nat) (gv : Bool) (n : Int) : Prop where
  c0 : w.cell? (x.add (i * 2)) = some (.bool gv)
  c1 : w.cell? (x.add (i * 2 + 1)) = some (.int .i64 n)
  w1 : (Lit.int .i64 n).wf = true
def RActs (w : World) (a : Option Addr) (len : Nat) : Prop := ∀ i, i < len → ∃ x gv n, a = some x ∧ RAct w x i gv n
theorem RActs.spot {w : World} {x : Addr} {len : Nat} (h : RActs w (some x) len) (h0 : 0 < len) : x.spot = Option.none := by
  obtain ⟨y, gv, n, hy, s⟩ := h 0 h0
  cases hy
  have := World.cell?_spot s.c0
  unfold Addr.add at this
  simpa using this
theorem ract_at {w wr : World} {x : Addr} {i : Nat} {gv : Bool} {n : Int} (h : RAct w x i gv n) (hsp : x.spot = Option.none) (B : Below w.heap.size w wr) :
    ∃ g o, x = ⟨g, o, Option.none⟩ ∧ wr.cell? ⟨g, o + i * 2, Option.none⟩ = some (.bool gv) ∧ wr.cell? ⟨g, o + i * 2 + 1, Option.none⟩ = some (.int .i64 n) := by
  obtain ⟨g, o, spot⟩ := x
  have h0 := h.c0
  have hspot : spot = Option.none := hsp
  subst hspot
  have hlt : g < w.heap.size := by
    rw [Addr.add_lit] at h0
    exact World.block_lt_of_cell? w _ h0
  have c0 := h.c0
  have c1 := h.c1
  rw [Addr.add_lit, ← B.cell (p := ⟨g, _, Option.none⟩) hlt] at c0 c1
  exact ⟨g, o, rfl, c0, c1⟩
theorem lastK_succ {p : Rm → Bool} {l : List Rm} {k : Nat} {r : Rm} (h : l[k]? = some r) : lastK p l (k + 1) = if p r then (k : Int) else lastK p l k := by
  rw [lastK, h]; rfl
/-- A room in a block of its own. -/
structure XC (W : World) (B : Nat) (r : Rm) : Prop where
  c0 : W.cell? ⟨B, 0, Option.none⟩ = some (.int .i64 r.pos)
  c1 : W.cell? ⟨B, 1, Option.none⟩ = some (.int .i64 r.sz)
  c2 : W.cell? ⟨B, 2, Option.none⟩ = some (.bool r.tk)
theorem XC.new (w : World) (r : Rm) : XC (w.alloc (.cells #[.int .i64 r.pos, .int .i64 r.sz, .bool r.tk] 39)) w.heap.size r :=
  ⟨cell_of_row _ _ 0 _ _ _ (MapKept.heap_alloc w _).1, cell_of_row _ _ 1 _ _ _ (MapKept.heap_alloc w _).1, cell_of_row _ _ 2 _ _ _ (MapKept.heap_alloc w _).1⟩
theorem XC.kept {w w' : World} {B : Nat} {r : Rm} (h : XC w B r) {F : Nat → Prop} (t : Touch F w w') (hF : ¬ F B) : XC w' B r := ⟨t.cell h.c0 hF, t.cell h.c1 hF, t.cell h.c2 hF⟩
theorem XC.lt {w : World} {B : Nat} {r : Rm} (h : XC w B r) : B < w.heap.size := World.block_lt_of_cell? w _ h.c0
theorem XC.src {w : World} {B : Nat} {r : Rm} (h : XC w B r) : ESrc RE w (.slice (some ⟨B, 0, Option.none⟩) 1 1) [r] := by
  refine .inr ⟨_, 1, rfl, fun j u hu => ?_⟩
  rw [Addr.add_lit, Nat.zero_add]
  match j, hu with
  | 0, hu => rw [h.c0]; exact hu
  | 1, hu => rw [h.c1]; exact hu
  | 2, hu => rw [h.c2]; exact hu
  | j + 3, hu => simp [El.fl] at hu

variable {E : Type}
theorem eapp2 {e : El E} {w wr : World} {a : Option Addr} {i cap : Nat} {l L : List E} (h : EBld e w wr a i cap l) {v : Value} (hs : ESrc e wr v L) (hi : i + L.length ≤ 100000) :
    ∃ a' cap' w2, (Builtin.append_ #[e.s, e.s] e.s #[.slice a i cap, v]).run Try.prog wr = .ok (.slice a' (i + L.length) cap') w2 ∧ EBld e w w2 a' (i + L.length) cap' (l ++ L) ∧ Touch (fun k => (Value.slice a i cap).ownBlock = some k) wr w2 ∧ (∀ k, (Value.slice a' (i + L.length) cap').ownBlock = some k → (Value.slice a i cap).ownBlock = some k ∨ wr.heap.size ≤ k) := by
  obtain ⟨i4, hi4, hz, hsz, hby⟩ := info_parts e.info
  rcases hs with ⟨rfl, rfl⟩ | ⟨ad, c, rfl, hcells⟩
  · have hap := run_append_owned_none (P := Try.prog) wr 0 e.s e.s e.t i4 e.K e.us hi4 (.slice a i cap) i (e.fl l) h.own
    exact ⟨a, cap, wr, by simpa using hap, by simpa using h, Touch.refl _ _, fun k hk => .inl hk⟩
  · have hone := e.fl_one L
    have hb := e.by8
    have hbb : (i + L.length) * e.bytes ≤ 140737488355328 := by
      have : (i + L.length) * e.bytes ≤ 100000 * 64 := Nat.mul_le_mul hi hb
      omega
    obtain ⟨v', w2, hap, ho2, hg2, hv2⟩ := run_append_own (P := Try.prog) wr 0 e.s e.s e.t i4 e.z e.K e.bytes e.us hi4 hz hsz hby e.zs e.pos _ i (e.fl l) h.own
      ad L.length c (e.fl L) (e.fl_length L) hcells hone (by simp only [maxLen]; omega) hbb (by simp)
    have hnb := append_block (P := Try.prog) wr 0 e.s e.s e.t i4 e.z e.K e.bytes e.us hi4 hz hsz hby e.zs e.pos _ i (e.fl l) h.own
      ad L.length c (e.fl L) (e.fl_length L) hcells hone (by simp only [maxLen]; omega) hbb hap
    have t : Touch (fun j => (Value.slice a i cap).ownBlock = some j) wr w2 := Touch.grown hg2 (fun j hj _ => hj)
    have tt : Touch (fun _ => False) w w2 := h.t.trans' t (fun _ _ h => h) (fun k hk hf => by have := h.off k hf; omega)
    have hoff : ∀ k, v'.ownBlock = some k → w.heap.size ≤ k := fun k hk => (hnb k hk).elim (h.off k) (fun h' => Nat.le_trans h.t.size h')
    have ho3 : w2.ownsRow 0 e.t e.K v' (i + L.length) (e.fl (l ++ L)) := by
      rw [El.fl_append]; exact ho2
    have hform : ∃ a' cap', v' = .slice a' (i + L.length) cap' := by
      rcases ho3.2 with ⟨hv, hn'⟩ | ⟨g3, cap3, cur3, hv, r⟩
      · exact ⟨Option.none, 0, by rw [hv, hn']⟩
      · exact ⟨_, _, hv⟩
    obtain ⟨a', cap', rfl⟩ := hform
    exact ⟨a', cap', w2, hap, ⟨ho3, hoff, tt⟩, t, hnb⟩
theorem step_append_f {E : Type} {e : El E} {w W : World} {ops : Array Oper} {o : Oper} {a : Act} {K : Act → World → Prop} {Q : Exit → Act → World → Prop} {Z : Prop} (hgd : o.guard = Option.none) (s x : Operand)
    (ho : o.op = .call { callee := .builtin .append, args := #[s, x], argTypes := #[e.s, e.s] }) (ht : o.type = e.s) {av : Option Addr} {i cap : Nat} {l L : List E} {v : Value}
    (hs : a.eval s = .slice av i cap) (hx : a.eval x = v) (hB : EBld e w W av i cap l) (hL : ESrc e W v L) (hi : i + L.length ≤ 100000)
    (h : ∀ a' cap' w2, EBld e w w2 a' (i + L.length) cap' (l ++ L) → Touch (fun k => (Value.slice av i cap).ownBlock = some k) W w2 → (∀ k, (Value.slice a' (i + L.length) cap').ownBlock = some k → (Value.slice av i cap).ownBlock = some k ∨ W.heap.size ≤ k) → K (a.put o.dst (.slice a' (i + L.length) cap')) w2) : if Region.wanted o (yielded ops a.tmps) = true then Oper.wp Try.prog o a W K Q else Z := by
  obtain ⟨a', cap', w2, hap, b, t, hn⟩ := eapp2 hB hL hi
  exact step_append_run hgd s x e.s e.s ho hs hx (by rw [ht]; exact hap) (h a' cap' w2 b t hn)
theorem step_append_b {E : Type} {e : El E} {w W : World} {ops : Array Oper} {o : Oper} {a : Act} {K : Act → World → Prop} {Q : Exit → Act → World → Prop} {Z : Prop} (hgd : o.guard = Option.none) (s x : Operand)
    (ho : o.op = .call { callee := .builtin .append, args := #[s, x], argTypes := #[e.s, e.s] }) (ht : o.type = e.s) {av : Option Addr} {i cap : Nat} {l L : List E} {v : Value}
    (hs : a.eval s = .slice av i cap) (hx : a.eval x = v) (hB : EBld e w W av i cap l) (hL : ESrc e w v L) (hi : i + L.length ≤ 100000)
    (h : ∀ a' cap' w2, EBld e w w2 a' (i + L.length) cap' (l ++ L) → Touch (fun k => (Value.slice av i cap).ownBlock = some k) W w2 → (∀ k, (Value.slice a' (i + L.length) cap').ownBlock = some k → (Value.slice av i cap).ownBlock = some k ∨ W.heap.size ≤ k) → K (a.put o.dst (.slice a' (i + L.length) cap')) w2) : if Region.wanted o (yielded ops a.tmps) = true then Oper.wp Try.prog o a W K Q else Z :=
  step_append_f hgd s x ho ht hs hx hB (hL.kept hB.t) hi h
structure Rrd (w : World) (n p : Nat) (A : Ar) (R : Rp) (wr : World) (u : Nat → Value) (j : Nat) (l : List Rm) (a : Option Addr) (cap g o len0 cap0 : Nat) (gv : Bool) (x : Int) : Prop where
  u0 : u 0 = .int .i64 n
  u1 : u 1 = .slice (some ⟨g, o, Option.none⟩) len0 cap0
  u5 : u 5 = .pointer (some ⟨p, 0, Option.none⟩)
  u7 : u 7 = .slice a l.length cap
  u8 : u 8 = .int .i64 A.height
  u9 : u 9 = .int .i64 A.live
  u10 : u 10 = .int .i64 j
  hj : j < len0
  l60 : len0 ≤ 60
  d0 : wr.cell? ⟨g, o + j * 2, Option.none⟩ = some (.bool gv)
  d1 : wr.cell? ⟨g, o + j * 2 + 1, Option.none⟩ = some (.int .i64 x)
  P : RPlays w n p wr A R l l a cap j
  xr : -9223372036854775808 ≤ x ∧ x ≤ 9223372036854775807
  n2 : n ≤ 4194304
abbrev ROut (w : World) (n p : Nat) (j g o len0 cap0 : Nat) (K0 : Act → World → Prop) : Exit → Act → World → Prop :=
  Exit.then (fun a' w' => WR (RRel w n p (some ⟨g, o, Option.none⟩) len0 cap0) a' w' ∧ Rmu len0 a' w' < len0 - j) (Exit.inBlock 0 (Exit.then K0 (bodyPost Try.prog Try.f4 (fun e w' => e = .returned (.bool true) ∧ Below w.heap.size w w'))))
end Go.Proofs.Ytmjnoboeffajbaa
