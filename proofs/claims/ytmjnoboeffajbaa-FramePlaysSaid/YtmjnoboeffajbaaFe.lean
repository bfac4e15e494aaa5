/- Frames: pushed, popped, gone on. -/
import Derived.Test.YtmjnoboeffajbaaFd
namespace Go.Proofs.Ytmjnoboeffajbaa
open Go.RowKit Go.Maps
set_option linter.unusedSimpArgs false
set_option linter.unusedVariables false

variable {w w' : World} {q p : Nat} {S : Sk} {A : Ar} {R : Rp} {m : List Fm}

/-- A block of cells that no string shares. -/
def Unf (w : World) (z : Nat) : Prop := ∃ cs t, w.heap[z]? = some (.cells cs t (0, 0))
theorem Unf.of {w : World} {z : Nat} {cs : Array Value} {t : TypeId} (h : w.heap[z]? = some (.cells cs t (0, 0))) : Unf w z := ⟨cs, t, h⟩
theorem Unf.set {w : World} {z : Nat} (h : Unf w z) (b j : Nat) (v : Value) : Unf (w.setCell ⟨b, j, Option.none⟩ v) z := by
  obtain ⟨cs, t, h⟩ := h
  by_cases e : b = z
  · exact ⟨cs.setIfInBounds j v, t, by simp [World.setCell, Array.getElem?_modify, h, e]⟩
  · exact ⟨cs, t, by simp [World.setCell, Array.getElem?_modify, h, e]⟩
theorem Unf.alloc {w : World} {z : Nat} (h : Unf w z) (o : Obj) : Unf (w.alloc o) z := by
  obtain ⟨cs, t, h⟩ := h
  exact ⟨cs, t, (Touch.alloc (fun _ => False) w o).heap (fun h => h) h⟩
theorem Unf.fz {w : World} {z : Nat} (h : Unf w z) (j : Nat) : w.frozen? ⟨z, j, Option.none⟩ = false := by
  obtain ⟨cs, t, h⟩ := h
  simp [World.frozen?, h]

/-- What a change of frames comes to. -/
def FChg (q p : Nat) (S : Sk) (A : Ar) (R : Rp) (m' : List Fm) (v : Value) (w : World) (e : Ending) (w' : World) : Prop :=
  ∃ S' b', e = .returned v ∧ S'.o = S.o ∧ S'.cells = S.cells ∧ FOn w' q p S' { A with b := b' } R m' ∧ Touch (fun k => k = q ∨ k = R.buf) w w'

theorem FHas.push {b : List Int} (h : FHas S b m) {x : Fm} (hx : x.ok) (hl : S.o + 12 * S.h + 12 ≤ b.length) : FHas { S with h := S.h + 1 } (putN b (S.o + 12 * S.h) x 3) (m ++ [x]) where
  len := by simp [h.len]
  fr := by
    intro i y hy
    show rdF (putN b (S.o + 12 * S.h) x 3) (S.o + 12 * i) = y
    by_cases hi : i < m.length
    · rw [List.getElem?_append_left hi] at hy
      rw [rdF_old hl (.inl (by rw [h.len] at hi; omega)), h.fr i y hy]
    · rw [List.getElem?_append_right (by omega)] at hy
      have h0 : i - m.length = 0 := by
        have := (List.getElem?_eq_some_iff.1 hy).1
        simpa using this
      rw [h0] at hy
      simp at hy
      subst hy
      rw [show i = S.h by rw [← h.len]; omega]
      exact rdF_same hl hx

set_option maxRecDepth 100000 in
set_option maxHeartbeats 1000000 in
theorem fpush (h : FOn w q p S A R m) (x : Fm) (hx : x.ok) (hm : m.length < S.cells) :
    Calls Try.prog 37 #[.pointer (some ⟨q, 0, Option.none⟩), .agg x.cells] w (FChg q p S A R (m ++ [x]) (.int .i64 0) w) := by
  have hlen := h.has.len
  have hS := h.fr.hc
  have hC := h.ar.hbl
  have tA : Touch (fun _ => False) w (w.alloc (.cells x.cells 69)) := Touch.alloc _ w _
  have hz : (w.alloc (.cells x.cells 69)).heap[w.heap.size]? = some (.cells x.cells 69 (0, 0)) := (MapKept.heap_alloc w _).1
  have h1 := h.fresh tA
  have GN := Lib.hid (fgone_no h1.fr h1.cl)
  have RT := Lib.hid (fun w => right_ok x hx w)
  have e1 : ¬ S.h = S.cells := by omega
  have hqb : ¬ q = R.buf := fun e => h.fr.off h.ar (.inr (.inl e))
  have H1 := Lib.hid h1
  have LQ := h.fr.ltq
  have LB := h.ar.ltb
  clear h h1
  unfold Fm.cells at *
  go_enter Try.func37, Try.ntmps37
  go_wp2_with fail
  refine GN.out.mono ?_
  rintro e w1 ⟨rfl, rfl⟩
  have dz : ∀ j, (w.alloc (.cells #[.int .i64 x.f, .int .i64 x.p, .int .i64 x.b] 69)).cell? ⟨w.heap.size, j, Option.none⟩ = (#[.int .i64 x.f, .int .i64 x.p, .int .i64 x.b] : Array Value)[j]? := fun j => cell_of_row _ _ _ _ _ _ hz
  go_wp2_with fail
  refine (RT.out _).mono ?_
  rintro e w2 ⟨rfl, t2⟩
  have h2 := H1.out.fresh t2
  have hz2 := t2.heap (fun h => h) hz
  have c3 := h2.fr.c3
  have c2 := h2.fr.c2
  have T2 := Lib.hid (tA.trans t2)
  have H2 := Lib.hid h2
  have HZ := Lib.hid hz2
  clear H1 t2 hz2 h2 tA dz GN RT hz
  go_wp2_with fail
  go_quiet (fail)
  have h3 : FOn (w2.drewN (nq + 1)) q p S A R m := H2.out.fresh (Touch.drewN _ _ _)
  have T3 := Lib.hid (T2.out.trans (Touch.drewN _ w2 (nq + 1)))
  have PT := Lib.hid (fput_ok h3.fr h3.ar S.h (by omega) h3.room x hx)
  unfold Fm.cells at PT
  have H3 := Lib.hid h3
  have dz : ∀ j, w2.cell? ⟨w.heap.size, j, Option.none⟩ = (#[.int .i64 x.f, .int .i64 x.p, .int .i64 x.b] : Array Value)[j]? := fun j => cell_of_row _ _ _ _ _ _ HZ.out
  have e5 : ((S.h : Int) = (S.cells : Int)) = False := by simp; omega
  clear h3 T2 H2
  go_wp2_with fail
  go_region_with (go_at_call 61; (with_reducible refine PT.out.mono ?_); rintro e w4 ⟨rfl, a4, t4⟩)
  all_goals
    have f4 := H3.out.fr.kept t4 hqb
    have c3 := f4.c3
    have z3 := f4.fz 3
    have e6 : IntKind.i64.wrap ((S.h : Int) + 1) = (S.h : Int) + 1 := IntWalk.i64_in _ (by omega)
    have s5 : FrAt (w4.setCell ⟨q, 3, Option.none⟩ (.int .i64 ((S.h : Int) + 1))) q p { S with h := S.h + 1 } :=
      f4.stored 3 _ (by simp [Sk.row]) (by show S.h + 1 ≤ S.cells; omega) f4.hc f4.ho
    have t5 : Touch (· = q) w4 (w4.setCell ⟨q, 3, Option.none⟩ (.int .i64 ((S.h : Int) + 1))) := Touch.cell1 w4 q 3 _
    have a5 := a4.kept t5 (fun j hj e => by rw [e] at hj; exact f4.off a4 hj)
    have hl : S.o + 12 * S.h + 12 ≤ A.b.length := by have := H3.out.room; have := H3.out.ar.hbl; omega
    have FIN := Lib.hid (show FChg q p S A R (m ++ [x]) (.int .i64 0) w (.returned (.int .i64 0)) (w4.setCell ⟨q, 3, Option.none⟩ (.int .i64 ((S.h : Int) + 1))) from
      ⟨{ S with h := S.h + 1 }, _, rfl, rfl, rfl, ⟨s5, a5, H3.out.cl, good_putN H3.out.good _ _ _, H3.out.room, H3.out.has.push hx hl, fun y hy => by
        rcases List.mem_append.1 hy with hy | hy
        · exact H3.out.ok y hy
        · rw [List.mem_singleton.1 hy]; exact hx⟩,
        (T3.out.trans' (t4.trans' (H := fun k => k = q ∨ k = R.buf) t5 (fun _ _ h => .inr h) (fun _ _ h => .inl h)) (fun _ _ h => h.elim) (fun _ _ h => h))⟩)
    clear s5 t5 a5 f4 a4 t4 H3 PT T3
    go_wp2_with fail
    go_ret
    exact FIN.out

theorem FHas.pop {b : List Int} {x : Fm} (h : FHas S b (m ++ [x])) : FHas { S with h := S.h - 1 } b m where
  len := by have := h.len; simp at this; simp; omega
  fr := fun i y hy => h.fr i y (by rw [List.getElem?_append_left (List.getElem?_eq_some_iff.1 hy).1]; exact hy)

set_option maxRecDepth 100000 in
set_option maxHeartbeats 1000000 in
theorem fpop {x : Fm} (h : FOn w q p S A R (m ++ [x])) :
    Calls Try.prog 38 #[.pointer (some ⟨q, 0, Option.none⟩)] w (FChg q p S A R m (.tuple #[.agg x.cells, .int .i64 0]) w) := by
  have hlen := h.has.len
  simp at hlen
  have hS := h.fr.hc
  have hh := h.fr.hh
  have tA : Touch (fun _ => False) w (w.alloc (.cells z3 69)) := Touch.alloc _ w _
  have hz : (w.alloc (.cells z3 69)).heap[w.heap.size]? = some (.cells z3 69 (0, 0)) := (MapKept.heap_alloc w _).1
  have h1 := h.fresh tA
  have TP := Lib.hid (ftop_ok h1)
  have H1 := Lib.hid h1
  have LT := Lib.hid (show ∀ j, fp R p j → j < w.heap.size from fun j hj => h.ar.lt_fp hj)
  have LQ := h.fr.ltq
  have e1 : IntKind.i64.wrap ((S.h : Int) - 1) = (S.h : Int) - 1 := IntWalk.i64_in _ (by omega)
  clear h h1
  unfold Fm.cells at *
  go_enter Try.func38, Try.ntmps38
  go_wp2_with fail
  refine TP.out.mono ?_
  rintro e w2 ⟨rfl, t2⟩
  have h2 := H1.out.fresh t2
  have tq : Touch (· = q) w2 (w2.setCell ⟨q, 3, Option.none⟩ (.int .i64 ((S.h : Int) - 1))) := Touch.cell1 w2 q 3 _
  have n1 : ¬ w.heap.size = q := by omega
  have n2 : ¬ q = w.heap.size := by omega
  have L2 : w.heap.size < w2.heap.size := by have := t2.size; simp at this; omega
  have LQ2 : q < w2.heap.size := by omega
  have s4 : FrAt (w2.setCell ⟨q, 3, Option.none⟩ (.int .i64 ((S.h : Int) - 1))) q p { S with h := S.h - 1 } :=
    h2.fr.stored 3 _ (by simp [Sk.row]; omega) (by show S.h - 1 ≤ S.cells; omega) h2.fr.hc h2.fr.ho
  have a4 := h2.ar.kept tq (fun j hj e => by rw [e] at hj; exact h2.fr.off h2.ar hj)
  have hz2 := t2.heap (fun h => h) hz
  have hz4 := tq.heap n1 hz2
  have t5 := set3_touch (w2.setCell ⟨q, 3, Option.none⟩ (.int .i64 ((S.h : Int) - 1))) w.heap.size (.int .i64 x.f) (.int .i64 x.p) (.int .i64 x.b)
  have hz5 := set3_heap hz4 (.int .i64 x.f) (.int .i64 x.p) (.int .i64 x.b)
  have tB : Touch (fun _ => False) (set3 (w2.setCell ⟨q, 3, Option.none⟩ (.int .i64 ((S.h : Int) - 1))) w.heap.size (.int .i64 x.f) (.int .i64 x.p) (.int .i64 x.b)) ((set3 (w2.setCell ⟨q, 3, Option.none⟩ (.int .i64 ((S.h : Int) - 1))) w.heap.size (.int .i64 x.f) (.int .i64 x.p) (.int .i64 x.b)).alloc (.cells #[.int .i64 x.f, .int .i64 x.p, .int .i64 x.b] 69)) := Touch.alloc _ _ _
  have s6 := Lib.hid ((s4.kept t5 (fun h => n2 h)).kept tB (fun h => h))
  have a6 := Lib.hid ((a4.kept t5 (fun j hj e => by rw [e] at hj; have := LT.out _ hj; omega)).kept tB (fun _ _ h => h))
  have hz6 := Lib.hid (tB.heap (fun h => h) hz5)
  have T6 := Lib.hid ((((tA.trans t2).trans' (H := fun k => k = q) tq (fun _ _ h => h.elim) (fun _ _ h => h)).trans' (H := fun k => k = q) t5 (fun _ _ h => h) (fun i hi h => by omega)).trans' (H := fun k => k = q ∨ k = R.buf) tB (fun _ _ h => .inl h) (fun _ _ h => h.elim))
  have u1 := (Unf.of hz2).set q 3 (.int .i64 ((S.h : Int) - 1))
  have u2 := u1.set w.heap.size 0 (.int .i64 x.f)
  have u3 := u2.set w.heap.size 1 (.int .i64 x.p)
  have f5 := (u1.alloc (.cells #[.int .i64 x.f, .int .i64 x.p, .int .i64 x.b] 69)).fz
  have f6 := (u2.alloc (.cells #[.int .i64 x.f, .int .i64 x.p, .int .i64 x.b] 69)).fz
  have f7 := (u3.alloc (.cells #[.int .i64 x.f, .int .i64 x.p, .int .i64 x.b] 69)).fz
  have d0 : w2.cell? ⟨w.heap.size, 0, Option.none⟩ = some (.int .i64 0) := by rw [cell_of_row _ _ _ _ _ _ hz2]; rfl
  have d1 : w2.cell? ⟨w.heap.size, 1, Option.none⟩ = some (.int .i64 0) := by rw [cell_of_row _ _ _ _ _ _ hz2]; rfl
  have d2 : w2.cell? ⟨w.heap.size, 2, Option.none⟩ = some (.int .i64 0) := by rw [cell_of_row _ _ _ _ _ _ hz2]; rfl
  have H2 := Lib.hid h2
  have c3 := h2.fr.c3
  have f3 := h2.fr.fz 3
  clear u1 u2 u3 hz hz5 hz4 hz2 h2 t5 tB tq t2 tA TP H1 s4 a4
  go_wp2_with fail
  refine bodyPost_ret (v := .tuple #[.agg #[.int .i64 x.f, .int .i64 x.p, .int .i64 x.b], .int .i64 0]) ?_ rfl
    ⟨{ S with h := S.h - 1 }, A.b, rfl, rfl, rfl, ⟨s6.out, a6.out, H2.out.cl, H2.out.good, H2.out.room, H2.out.has.pop, fun y hy => H2.out.ok y (List.mem_append_left _ hy)⟩, T6.out⟩
  rw [results_cell_tmp rfl]
  simp [asAddr, Result.andThen, load_fm hz6.out rfl]
end Go.Proofs.Ytmjnoboeffajbaa
