/- Frames: a frame had. -/
import Derived.Test.YtmjnoboeffajbaaFb
import Derived.Laws.Rows
import Derived.Laws.ResultCell
namespace Go.Proofs.Ytmjnoboeffajbaa
open Go.RowKit Go.Maps
set_option linter.unusedSimpArgs false
set_option linter.unusedVariables false

variable {w w' : World} {q p : Nat} {S : Sk} {A : Ar} {R : Rp}

/-- The frame of the bytes from a place on. -/
def rdF (b : List Int) (o : Nat) : Fm := ⟨rd 4 b o, rd 4 b (o + 4), rd 4 b (o + 8)⟩
theorem rdF_nth (b : List Int) (o k : Nat) (h : k < 3) : rd 4 b (o + 4 * k) = nth (rdF b o) k := by
  match k, h with
  | 0, _ => rfl
  | 1, _ => rfl
  | 2, _ => rfl
theorem rdF_ok {b : List Int} (hb : Good b) (o : Nat) : (rdF b o).ok := by
  have h := fun o => rd_lt hb 4 o
  have h1 := h o
  have h2 := h (o + 4)
  have h3 := h (o + 8)
  simp only [rdF, Fm.ok]
  omega
/-- A row of three numbers, the first k of them told. -/
def rowK (x : Fm) (k : Nat) : Array Value := #[.int .i64 (if 0 < k then (x.f : Int) else 0), .int .i64 (if 1 < k then (x.p : Int) else 0), .int .i64 (if 2 < k then (x.b : Int) else 0)]
theorem rowK_set (x : Fm) (k : Nat) (h : k < 3) : (rowK x k).setIfInBounds k (.int .i64 (nth x k : Nat)) = rowK x (k + 1) := by
  match k, h with
  | 0, _ => rfl
  | 1, _ => rfl
  | 2, _ => rfl

theorem info69 : (Try.prog.info? 69).map (·.size) = some 3 := by kernel_rfl

set_option maxRecDepth 100000 in
set_option maxHeartbeats 1000000 in
theorem fget_ok (h : FrAt w q p S) (a : ArAt w p A R) (i : Nat) (hi : i < S.cells) (ho : S.o + 12 * S.cells ≤ A.n) (hb : Good A.b) :
    Calls Try.prog 62 #[.pointer (some ⟨q, 0, Option.none⟩), .int .i64 i] w fun e w' => e = .returned (.agg (rdF A.b (S.o + 12 * i)).cells) ∧ Touch (fun _ => False) w w' := by
  have hn := a.hn
  have hS := h.hc
  have hO := h.ho
  have hx := rdF_ok hb (S.o + 12 * i)
  have hR := fun k hk => rdF_nth A.b (S.o + 12 * i) k hk
  generalize rdF A.b (S.o + 12 * i) = x at *
  have tA : Touch (fun _ => False) w ((w.alloc (.cells (rowK x 0) 69)).alloc (.cells (rowK x 0) 104)) := (Touch.alloc _ w _).trans (Touch.alloc _ _ _)
  have hz : ((w.alloc (.cells (rowK x 0) 69)).alloc (.cells (rowK x 0) 104)).heap[w.heap.size]? = some (.cells (rowK x 0) 69 (0, 0)) := by
    have := (Touch.alloc (fun _ => False) (w.alloc (.cells (rowK x 0) 69)) (.cells (rowK x 0) 104)).heap (fun h => h) (MapKept.heap_alloc w _).1
    exact this
  have hy : ((w.alloc (.cells (rowK x 0) 69)).alloc (.cells (rowK x 0) 104)).heap[w.heap.size + 1]? = some (.cells (rowK x 0) 104 (0, 0)) := by
    have := (MapKept.heap_alloc (w.alloc (.cells (rowK x 0) 69)) (.cells (rowK x 0) 104)).1
    simpa using this
  have s := h.kept tA (fun h => h)
  have a1 := a.kept tA (fun _ _ h => h)
  have LQ := h.ltq
  have LT := Lib.hid (show ∀ j, fp R p j → j < w.heap.size from fun j hj => a.lt_fp hj)
  clear h a
  have e0 : rowK x 0 = #[.int .i64 0, .int .i64 0, .int .i64 0] := rfl
  rw [e0] at tA hz hy s a1
  have e1 : IntKind.i64.wrap (3 * (i : Int)) = 3 * (i : Int) := IntWalk.i64_in _ (by omega)
  have LW := tA.size
  go_enter Try.func62, Try.ntmps62
  go_wp2_with fail
  generalize (w.alloc (Obj.cells #[Value.int IntKind.i64 0, Value.int IntKind.i64 0, Value.int IntKind.i64 0] 69)).alloc (Obj.cells #[Value.int IntKind.i64 0, Value.int IntKind.i64 0, Value.int IntKind.i64 0] 104) = w1 at *
  go_loopw [9] (fun j wr => ∃ (k : Nat), j = .int .i64 k ∧ k ≤ 3 ∧ Touch (· = w.heap.size + 1) w1 wr ∧ wr.heap[w.heap.size + 1]? = some (.cells (rowK x k) 104 (0, 0))) (fun i _ => 3 - (intOf i).toNat)
  case atStart => exact ⟨0, rfl, by omega, Touch.refl _ _, hy⟩
  case round =>
    obtain ⟨k, rfl, hk, t, hy2⟩ := hrel
    by_cases hlt : k < 3
    · have e2 : IntKind.i64.wrap (3 * (i : Int) + (k : Int)) = 3 * (i : Int) + (k : Int) := IntWalk.i64_in _ (by omega)
      have e3 : IntKind.i64.wrap (4 * (3 * (i : Int) + (k : Int))) = 4 * (3 * (i : Int) + (k : Int)) := IntWalk.i64_in _ (by omega)
      have e4 : IntKind.i64.wrap ((S.o : Int) + 4 * (3 * (i : Int) + (k : Int))) = (S.o : Int) + 4 * (3 * (i : Int) + (k : Int)) := IntWalk.i64_in _ (by omega)
      have s2 := s.kept t (by omega)
      have a2 := a1.kept t (fun j hj e => by
        have h1 := LT.out j hj
        omega)
      have GT := fun n => get4 (a2.drewN n) (S.o + 12 * i + 4 * k) (by omega) hb
      rw [show ((S.o + 12 * i + 4 * k : Nat) : Int) = (S.o : Int) + 4 * (3 * (i : Int) + (k : Int)) by omega, hR k hlt] at GT
      have GT2 := Lib.hid GT
      have c0 := s2.c0
      have c1 := s2.c1
      have hv : nth x k ≤ 4294967295 := by
        unfold nth; split
        · exact hx.1
        · split
          · exact hx.2.1
          · exact hx.2.2
      have ev : IntKind.i64.wrap ((nth x k : Nat) : Int) = ((nth x k : Nat) : Int) := IntWalk.i64_in _ (by omega)
      have hset := rowK_set x k hlt
      generalize nth x k = v at *
      have HS := Lib.hid hset
      have HY2 := Lib.hid hy2
      have HT := Lib.hid t
      have fz : ∀ n, (wr.drewN n).frozen? ⟨w.heap.size + 1, k, Option.none⟩ = false := fun n => by
        have : (wr.drewN n).heap = wr.heap := by simp
        simp [World.frozen?, this, hy2]
      obtain ⟨u, hu⟩ : ∃ u, (rowK x k)[k]? = some u := ⟨_, Array.getElem?_eq_getElem (show k < (rowK x k).size by simpa [rowK] using hlt)⟩
      have cy : ∀ n, (wr.drewN n).cell? ⟨w.heap.size + 1, k, Option.none⟩ = some u := fun n => by
        rw [← hu]
        have : (wr.drewN n).heap = wr.heap := by simp
        exact cell_of_row (wr.drewN n) _ k _ _ _ (by rw [this]; exact hy2)
      clear GT s2 a2 hset hy2 t
      go_wp2_with fail
      go_quiet ((go_at_call 28; exact Calls.quiet_of_same (GT2.out _)))
      have t3 : Touch (· = w.heap.size + 1) w1 ((wr.drewN nq).setCell ⟨w.heap.size + 1, k, Option.none⟩ (.int .i64 v)) := HT.out.trans ((Touch.drewN _ wr nq).trans (Touch.cell1 _ _ _ _))
      have hy3 : ((wr.drewN nq).setCell ⟨w.heap.size + 1, k, Option.none⟩ (.int .i64 v)).heap[w.heap.size + 1]? = some (.cells (rowK x (k + 1)) 104 (0, 0)) := by
        rw [← HS.out]
        simp [World.setCell, Array.getElem?_modify, HY2.out]
      have FIN := Lib.hid (And.intro t3 hy3)
      clear t3 hy3 HY2 HS HT GT2
      go_wp2_with fail
      go_roundw
      case rel => exact ⟨k + 1, by go_num, by omega, FIN.out.1, FIN.out.2⟩
      case measure => simp [intOf]; omega
    · obtain rfl : k = 3 := by omega
      have ez : rowK x 3 = x.cells := rfl
      rw [ez] at hy2
      have hz2 := t.heap (by omega) hz
      have tt := tA.trans' t (fun _ _ h => h) (fun i hi h => by omega)
      have c0 : wr.cell? ⟨w.heap.size + 1, 0, Option.none⟩ = some (.int .i64 x.f) := by rw [cell_of_row wr _ _ _ _ _ hy2]; rfl
      have c1 : wr.cell? ⟨w.heap.size + 1, 1, Option.none⟩ = some (.int .i64 x.p) := by rw [cell_of_row wr _ _ _ _ _ hy2]; rfl
      have c2 : wr.cell? ⟨w.heap.size + 1, 2, Option.none⟩ = some (.int .i64 x.b) := by rw [cell_of_row wr _ _ _ _ _ hy2]; rfl
      have f0 : ∀ j, wr.frozen? ⟨w.heap.size, j, Option.none⟩ = false := fun j => by simp [World.frozen?, hz2]
      have d0 : wr.cell? ⟨w.heap.size, 0, Option.none⟩ = some (.int .i64 0) := by rw [cell_of_row wr _ _ _ _ _ hz2]; rfl
      have d1 : wr.cell? ⟨w.heap.size, 1, Option.none⟩ = some (.int .i64 0) := by rw [cell_of_row wr _ _ _ _ _ hz2]; rfl
      have d2 : wr.cell? ⟨w.heap.size, 2, Option.none⟩ = some (.int .i64 0) := by rw [cell_of_row wr _ _ _ _ _ hz2]; rfl
      have HZ := Lib.hid hz2
      have TT := Lib.hid tt
      clear hz2 tt hy2 t hz hy s a1 tA
      go_wp2_with fail
      have hh : ((((wr.setCell ⟨w.heap.size, 0, Option.none⟩ (.int .i64 x.f)).setCell ⟨w.heap.size, 1, Option.none⟩ (.int .i64 x.p)).setCell ⟨w.heap.size, 2, Option.none⟩ (.int .i64 x.b))).heap[w.heap.size]? = some (.cells x.cells 69 (0, 0)) := by
        simp [World.setCell, Array.getElem?_modify, HZ.out, Fm.cells]
      have tn : Touch (· = w.heap.size) wr (((wr.setCell ⟨w.heap.size, 0, Option.none⟩ (.int .i64 x.f)).setCell ⟨w.heap.size, 1, Option.none⟩ (.int .i64 x.p)).setCell ⟨w.heap.size, 2, Option.none⟩ (.int .i64 x.b)) :=
        ((Touch.cell1 _ _ _ _).trans (Touch.cell1 _ _ _ _)).trans (Touch.cell1 _ _ _ _)
      refine bodyPost_ret (v := .agg x.cells) ?_ rfl ⟨rfl, TT.out.trans' tn (fun _ _ h => h) (fun i hi h => by omega)⟩
      exact results_cell_row rfl _ _ w.heap.size 69 x.cells (0, 0) _ rfl hh Try.underlying69 rfl info69
end Go.Proofs.Ytmjnoboeffajbaa
