/- Frames with what they hold: a frame from below, the top one. -/
import Derived.Test.YtmjnoboeffajbaaFc
namespace Go.Proofs.Ytmjnoboeffajbaa
open Go.RowKit Go.Maps
set_option linter.unusedSimpArgs false
set_option linter.unusedVariables false

variable {w w' : World} {q p : Nat} {S : Sk} {A : Ar} {R : Rp} {m : List Fm}

/-- The frames that lie in memory. -/
structure FHas (S : Sk) (b : List Int) (m : List Fm) : Prop where
  len : m.length = S.h
  fr : ∀ i x, m[i]? = some x → rdF b (S.o + 12 * i) = x

theorem FHas.empty (S : Sk) (b : List Int) (h : S.h = 0) : FHas S b [] := ⟨by simp [h], fun i x hi => by simp at hi⟩

theorem nth_lt {x : Fm} (hx : x.ok) (k : Nat) : nth x k < 256 ^ 4 := by
  have := hx.1; have := hx.2.1; have := hx.2.2
  unfold nth; split
  · omega
  · split <;> omega

theorem good_putN {b : List Int} (hb : Good b) (o : Nat) (x : Fm) : ∀ k, Good (putN b o x k)
  | 0 => hb
  | k + 1 => good_over (good_putN hb o x k) (good_le _ _)

theorem putN_old {b : List Int} {o : Nat} {x : Fm} (hl : o + 12 ≤ b.length) (n y : Nat) (h : y + n ≤ o ∨ o + 12 ≤ y) : ∀ k, k ≤ 3 → rd n (putN b o x k) y = rd n b y
  | 0, _ => rfl
  | k + 1, hk => by
    have h1 := putN_length b o x hl k (by omega)
    have h2 := putN_old (x := x) hl n y h k (by omega)
    show rd n (over (putN b o x k) (o + 4 * k) (leBytes 4 (nth x k))) y = _
    rw [rd_over_ne (by rw [leBytes_length, h1]; omega) (by rw [leBytes_length]; omega), h2]

theorem putN_new {b : List Int} {o : Nat} {x : Fm} (hl : o + 12 ≤ b.length) (hx : x.ok) : ∀ k, k ≤ 3 → ∀ j, j < k → rd 4 (putN b o x k) (o + 4 * j) = nth x j
  | 0, _, j, hj => by omega
  | k + 1, hk, j, hj => by
    have h1 := putN_length b o x hl k (by omega)
    show rd 4 (over (putN b o x k) (o + 4 * k) (leBytes 4 (nth x k))) (o + 4 * j) = _
    by_cases he : j = k
    · subst he
      exact rd_over_same (by rw [h1]; omega) (nth_lt hx _)
    · rw [rd_over_ne (by rw [leBytes_length, h1]; omega) (by rw [leBytes_length]; omega)]
      exact putN_new hl hx k (by omega) j (by omega)

theorem rdF_same {b : List Int} {o : Nat} {x : Fm} (hl : o + 12 ≤ b.length) (hx : x.ok) : rdF (putN b o x 3) o = x := by
  have h0 := putN_new hl hx 3 (by omega) 0 (by omega)
  have h1 := putN_new hl hx 3 (by omega) 1 (by omega)
  have h2 := putN_new hl hx 3 (by omega) 2 (by omega)
  simp only [Nat.mul_zero, Nat.add_zero, Nat.mul_one] at h0 h1 h2
  obtain ⟨f, p, c⟩ := x
  simp only [rdF, h0, h1]
  rw [show o + 8 = o + 4 * 2 by omega, h2]
  rfl
theorem rdF_old {b : List Int} {o y : Nat} {x : Fm} (hl : o + 12 ≤ b.length) (h : y + 12 ≤ o ∨ o + 12 ≤ y) : rdF (putN b o x 3) y = rdF b y := by
  have h0 := putN_old (x := x) hl 4 y (by omega) 3 (by omega)
  have h1 := putN_old (x := x) hl 4 (y + 4) (by omega) 3 (by omega)
  have h2 := putN_old (x := x) hl 4 (y + 8) (by omega) 3 (by omega)
  simp only [rdF, h0, h1, h2]

/-- Frames in their arena with what they hold. -/
structure FOn (w : World) (q p : Nat) (S : Sk) (A : Ar) (R : Rp) (m : List Fm) : Prop where
  fr : FrAt w q p S
  ar : ArAt w p A R
  cl : S.closed = false
  good : Good A.b
  room : S.o + 12 * S.cells ≤ A.n
  has : FHas S A.b m
  ok : ∀ x ∈ m, x.ok

theorem FOn.kept (h : FOn w q p S A R m) {F : Nat → Prop} (t : Touch F w w') (hq : ¬ F q) (hf : ∀ k, fp R p k → ¬ F k) : FOn w' q p S A R m :=
  ⟨h.fr.kept t hq, h.ar.kept t hf, h.cl, h.good, h.room, h.has, h.ok⟩
theorem FOn.fresh (h : FOn w q p S A R m) (t : Touch (fun _ => False) w w') : FOn w' q p S A R m := h.kept t (fun h => h) (fun _ _ h => h)
theorem FOn.le (h : FOn w q p S A R m) : m.length ≤ S.cells := by rw [h.has.len]; exact h.fr.hh

/-! ### a frame in a block of its own -/
abbrev z3 : Array Value := #[.int .i64 0, .int .i64 0, .int .i64 0]
def zF : Fm := ⟨0, 0, 0⟩
theorem zF_cells : zF.cells = z3 := rfl
abbrev set3 (w : World) (z : Nat) (x y u : Value) : World := ((w.setCell ⟨z, 0, Option.none⟩ x).setCell ⟨z, 1, Option.none⟩ y).setCell ⟨z, 2, Option.none⟩ u
theorem set3_touch (w : World) (z : Nat) (x y u : Value) : Touch (· = z) w (set3 w z x y u) := ((Touch.cell1 _ _ _ _).trans (Touch.cell1 _ _ _ _)).trans (Touch.cell1 _ _ _ _)
theorem set3_heap {w : World} {z : Nat} {a b c : Value} (h : w.heap[z]? = some (.cells #[a, b, c] 69 (0, 0))) (x y u : Value) : (set3 w z x y u).heap[z]? = some (.cells #[x, y, u] 69 (0, 0)) := by
  simp [World.setCell, Array.getElem?_modify, h]
theorem load_fm {w : World} {z : Nat} {cs : Array Value} (h : w.heap[z]? = some (.cells cs 69 (0, 0))) (hs : cs.size = 3) : (loadVar 69 ⟨z, 0, Option.none⟩).run Try.prog w = .ok (.agg cs) w :=
  run_loadVar_row w z 69 69 cs (0, 0) _ h Try.underlying69 rfl (by rw [info69, hs])
theorem frozen_of {w : World} {z : Nat} {cs : Array Value} (h : w.heap[z]? = some (.cells cs 69 (0, 0))) (j : Nat) : w.frozen? ⟨z, j, Option.none⟩ = false := by simp [World.frozen?, h]

set_option maxRecDepth 100000 in
set_option maxHeartbeats 1000000 in
theorem fat_ok (h : FOn w q p S A R m) (i : Nat) (x : Fm) (hi : m[i]? = some x) :
    Calls Try.prog 41 #[.pointer (some ⟨q, 0, Option.none⟩), .int .i64 i] w fun e w' => e = .returned (.tuple #[.agg x.cells, .int .i64 0]) ∧ Touch (fun _ => False) w w' := by
  have hlt : i < m.length := (List.getElem?_eq_some_iff.1 hi).1
  have hlen := h.has.len
  have tA : Touch (fun _ => False) w (w.alloc (.cells z3 69)) := Touch.alloc _ w _
  have hz : (w.alloc (.cells z3 69)).heap[w.heap.size]? = some (.cells z3 69 (0, 0)) := (MapKept.heap_alloc w _).1
  have h1 := h.fresh tA
  have GN := Lib.hid (fgone_no h1.fr h1.cl)
  have GT := fget_ok h1.fr h1.ar i (by have := h1.fr.hh; omega) h1.room h1.good
  rw [h1.has.fr i x hi] at GT
  have GT2 := Lib.hid GT
  have c3 := h1.fr.c3
  have e1 : (i : Int) < (S.h : Int) := by omega
  clear GT h h1 hlen hi hlt
  go_enter Try.func41, Try.ntmps41
  go_wp2_with fail
  refine GN.out.mono ?_
  rintro e w1 ⟨rfl, rfl⟩
  go_wp2_with fail
  refine GT2.out.mono ?_
  rintro e w2 ⟨rfl, t2⟩
  have hz2 := t2.heap (fun h => h) hz
  have f0 := frozen_of hz2
  have d0 : w2.cell? ⟨w.heap.size, 0, Option.none⟩ = some (.int .i64 0) := by rw [cell_of_row _ _ _ _ _ _ hz2]; rfl
  have d1 : w2.cell? ⟨w.heap.size, 1, Option.none⟩ = some (.int .i64 0) := by rw [cell_of_row _ _ _ _ _ _ hz2]; rfl
  have d2 : w2.cell? ⟨w.heap.size, 2, Option.none⟩ = some (.int .i64 0) := by rw [cell_of_row _ _ _ _ _ _ hz2]; rfl
  have tt := Lib.hid (tA.trans t2)
  have HZ := Lib.hid hz2
  clear hz2 t2 tA hz GT2 GN
  unfold Fm.cells
  go_wp2_with fail
  refine bodyPost_ret (v := .tuple #[.agg #[.int .i64 x.f, .int .i64 x.p, .int .i64 x.b], .int .i64 0]) ?_ rfl ⟨rfl, tt.out.trans' (set3_touch w2 w.heap.size _ _ _) (fun _ _ h => h) (fun i hi h => by omega)⟩
  rw [results_cell_tmp rfl]
  simp [asAddr, Result.andThen, load_fm (set3_heap HZ.out _ _ _) rfl]

theorem fdepth_ok (h : FrAt w q p S) (hc : S.closed = false) : Calls Try.prog 39 #[.pointer (some ⟨q, 0, Option.none⟩)] w fun e w' => e = .returned (.int .i64 S.h) ∧ w = w' := by
  have c3 := h.c3
  have GN := Lib.hid (fgone_no h hc)
  clear hc
  go_enter Try.func39, Try.ntmps39
  go_wp2_with (go_at_call 59; refine GN.out.mono ?_; rintro e w1 ⟨rfl, rfl⟩)
  go_ret
  exact ⟨rfl, rfl⟩

set_option maxRecDepth 100000 in
set_option maxHeartbeats 1000000 in
theorem fat_range (h : FOn w q p S A R m) (i : Int) (hi : i < 0 ∨ (m.length : Int) ≤ i) :
    Calls Try.prog 41 #[.pointer (some ⟨q, 0, Option.none⟩), .int .i64 i] w fun e w' => e = .returned (.tuple #[.agg z3, .int .i64 2]) ∧ Touch (fun _ => False) w w' := by
  have hlen := h.has.len
  have tA : Touch (fun _ => False) w (w.alloc (.cells z3 69)) := Touch.alloc _ w _
  have hz : (w.alloc (.cells z3 69)).heap[w.heap.size]? = some (.cells z3 69 (0, 0)) := (MapKept.heap_alloc w _).1
  have h1 := h.fresh tA
  have GN := Lib.hid (fgone_no h1.fr h1.cl)
  have c3 := h1.fr.c3
  have f0 := frozen_of hz
  have d0 : (w.alloc (.cells z3 69)).cell? ⟨w.heap.size, 0, Option.none⟩ = some (.int .i64 0) := by rw [cell_of_row _ _ _ _ _ _ hz]; rfl
  have d1 : (w.alloc (.cells z3 69)).cell? ⟨w.heap.size, 1, Option.none⟩ = some (.int .i64 0) := by rw [cell_of_row _ _ _ _ _ _ hz]; rfl
  have d2 : (w.alloc (.cells z3 69)).cell? ⟨w.heap.size, 2, Option.none⟩ = some (.int .i64 0) := by rw [cell_of_row _ _ _ _ _ _ hz]; rfl
  have HZ := Lib.hid hz
  have tt := Lib.hid tA
  rw [hlen] at hi
  clear h h1 hlen hz tA
  by_cases h0 : i < 0
  · clear hi
    go_enter Try.func41, Try.ntmps41
    go_wp2_with fail
    refine GN.out.mono ?_
    rintro e w1 ⟨rfl, rfl⟩
    go_wp2_with fail
    refine bodyPost_ret (v := .tuple #[.agg z3, .int .i64 2]) ?_ rfl ⟨rfl, tt.out⟩
    rw [results_cell_tmp rfl]
    simp [asAddr, Result.andThen, load_fm HZ.out rfl]
  · have h1 : (S.h : Int) ≤ i := by omega
    clear hi
    go_enter Try.func41, Try.ntmps41
    go_wp2_with fail
    refine GN.out.mono ?_
    rintro e w1 ⟨rfl, rfl⟩
    go_wp2_with fail
    refine bodyPost_ret (v := .tuple #[.agg z3, .int .i64 2]) ?_ rfl ⟨rfl, tt.out⟩
    rw [results_cell_tmp rfl]
    simp [asAddr, Result.andThen, load_fm HZ.out rfl]

/-- What the top frame's reader answers, whatever its caller below answers. -/
theorem ftop_from (h : FOn w q p S A R m) (x y u : Int) (e' : Int)
    (AT : ∀ w1, Touch (fun _ => False) w w1 → Calls Try.prog 41 #[.pointer (some ⟨q, 0, Option.none⟩), .int .i64 ((S.h : Int) - 1)] w1 fun e w' => e = .returned (.tuple #[.agg #[.int .i64 x, .int .i64 y, .int .i64 u], .int .i64 e']) ∧ Touch (fun _ => False) w1 w') :
    Calls Try.prog 45 #[.pointer (some ⟨q, 0, Option.none⟩)] w fun e w' => e = .returned (.tuple #[.agg #[.int .i64 x, .int .i64 y, .int .i64 u], .int .i64 e']) ∧ Touch (fun _ => False) w w' := by
  have hS := h.fr.hc
  have hh := h.fr.hh
  have tA : Touch (fun _ => False) w (w.alloc (.cells z3 69)) := Touch.alloc _ w _
  have hz : (w.alloc (.cells z3 69)).heap[w.heap.size]? = some (.cells z3 69 (0, 0)) := (MapKept.heap_alloc w _).1
  have h1 := h.fresh tA
  have DP := Lib.hid (fdepth_ok h1.fr h1.cl)
  have GT := Lib.hid (AT _ tA)
  have e1 : IntKind.i64.wrap ((S.h : Int) - 1) = (S.h : Int) - 1 := IntWalk.i64_in _ (by omega)
  clear h h1 AT hS hh
  go_enter Try.func45, Try.ntmps45
  go_wp2_with fail
  refine DP.out.mono ?_
  rintro e w1 ⟨rfl, rfl⟩
  go_wp2_with fail
  refine GT.out.mono ?_
  rintro e w2 ⟨rfl, t2⟩
  have hz2 := t2.heap (fun h => h) hz
  have f0 := frozen_of hz2
  have d0 : w2.cell? ⟨w.heap.size, 0, Option.none⟩ = some (.int .i64 0) := by rw [cell_of_row _ _ _ _ _ _ hz2]; rfl
  have d1 : w2.cell? ⟨w.heap.size, 1, Option.none⟩ = some (.int .i64 0) := by rw [cell_of_row _ _ _ _ _ _ hz2]; rfl
  have d2 : w2.cell? ⟨w.heap.size, 2, Option.none⟩ = some (.int .i64 0) := by rw [cell_of_row _ _ _ _ _ _ hz2]; rfl
  have tt := Lib.hid (tA.trans t2)
  have HZ := Lib.hid hz2
  clear hz2 t2 tA hz GT DP
  go_wp2_with fail
  refine bodyPost_ret (v := .tuple #[.agg #[.int .i64 x, .int .i64 y, .int .i64 u], .int .i64 e']) ?_ rfl ⟨rfl, tt.out.trans' (set3_touch w2 w.heap.size _ _ _) (fun _ _ h => h) (fun i hi h => by omega)⟩
  rw [results_cell_tmp rfl]
  simp [asAddr, Result.andThen, load_fm (set3_heap HZ.out _ _ _) rfl]

theorem last_get {m' : List Fm} (x : Fm) : (m' ++ [x])[m'.length]? = some x := by simp

theorem ftop_ok {m' : List Fm} {x : Fm} (h : FOn w q p S A R (m' ++ [x])) :
    Calls Try.prog 45 #[.pointer (some ⟨q, 0, Option.none⟩)] w fun e w' => e = .returned (.tuple #[.agg x.cells, .int .i64 0]) ∧ Touch (fun _ => False) w w' := by
  refine ftop_from h _ _ _ 0 fun w1 t => ?_
  have hl := h.has.len
  simp at hl
  have := fat_ok (h.fresh t) m'.length x (last_get x)
  rw [show ((m'.length : Nat) : Int) = (S.h : Int) - 1 by omega] at this
  exact this
theorem ftop_range (h : FOn w q p S A R []) :
    Calls Try.prog 45 #[.pointer (some ⟨q, 0, Option.none⟩)] w fun e w' => e = .returned (.tuple #[.agg z3, .int .i64 2]) ∧ Touch (fun _ => False) w w' := by
  refine ftop_from h _ _ _ 2 fun w1 t => ?_
  have hl := h.has.len
  simp at hl
  exact fat_range (h.fresh t) ((S.h : Int) - 1) (.inl (by omega))
end Go.Proofs.Ytmjnoboeffajbaa
