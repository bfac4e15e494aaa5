/- Frames: what may not be pushed, what is too much, what is out of range; closing; what closed frames answer. -/
import Derived.Test.YtmjnoboeffajbaaFk
import Derived.Test.YtmjnoboeffajbaaFi
namespace Go.Proofs.Ytmjnoboeffajbaa
open Go.RowKit Go.Maps
set_option linter.unusedSimpArgs false
set_option linter.unusedVariables false

variable {w w' : World} {q p : Nat} {S : Sk} {A : Ar} {R : Rp} {m : List Fm}

/-- May three numbers be a frame? -/
def okI (x y u : Int) : Bool := smallN x && smallN y && smallN u
theorem smallN_iff (n : Int) : smallN n = true ↔ 0 ≤ n ∧ n ≤ 4294967295 := by simp [smallN]

set_option maxHeartbeats 400000 in
theorem right_no (x y u : Int) (h : okI x y u = false) (w : World) : Calls Try.prog 60 #[.agg #[.int .i64 x, .int .i64 y, .int .i64 u]] w fun e w' => e = .returned (.bool false) ∧ Touch (fun _ => False) w w' := by
  have S1 := fun w => small_any x w
  have S2 := fun w => small_any y w
  have S3 := fun w => small_any u w
  have T := Touch.alloc (fun _ => False) w (.cells #[.int .i64 x, .int .i64 y, .int .i64 u] 69)
  unfold okI at h
  generalize smallN x = b1 at *
  generalize smallN y = b2 at *
  generalize smallN u = b3 at *
  have S1 := Lib.hid S1
  have S2 := Lib.hid S2
  have S3 := Lib.hid S3
  cases b1 with
  | false =>
    go_enter Try.func60, Try.ntmps60
    go_wp2_with fail
    refine (S1.out _).mono ?_
    rintro e w2 ⟨rfl, rfl⟩
    go_wp2_with fail
    go_ret
    exact ⟨rfl, T⟩
  | true =>
    cases b2 with
    | false =>
      go_enter Try.func60, Try.ntmps60
      go_wp2_with fail
      refine (S1.out _).mono ?_
      rintro e w2 ⟨rfl, rfl⟩
      go_wp2_with fail
      refine (S2.out _).mono ?_
      rintro e w2 ⟨rfl, rfl⟩
      go_wp2_with fail
      go_ret
      exact ⟨rfl, T⟩
    | true =>
      cases b3 with
      | true => cases h
      | false =>
        go_enter Try.func60, Try.ntmps60
        go_wp2_with fail
        refine (S1.out _).mono ?_
        rintro e w2 ⟨rfl, rfl⟩
        go_wp2_with fail
        refine (S2.out _).mono ?_
        rintro e w2 ⟨rfl, rfl⟩
        go_wp2_with fail
        refine (S3.out _).mono ?_
        rintro e w2 ⟨rfl, rfl⟩
        go_wp2_with fail
        go_ret
        exact ⟨rfl, T⟩

set_option maxRecDepth 100000 in
set_option maxHeartbeats 1000000 in
theorem fpush_arg (h : FOn w q p S A R m) (x y u : Int) (hx : okI x y u = false) :
    Calls Try.prog 37 #[.pointer (some ⟨q, 0, Option.none⟩), .agg #[.int .i64 x, .int .i64 y, .int .i64 u]] w fun e w' => e = .returned (.int .i64 1) ∧ Touch (fun _ => False) w w' := by
  have tA : Touch (fun _ => False) w (w.alloc (.cells #[.int .i64 x, .int .i64 y, .int .i64 u] 69)) := Touch.alloc _ w _
  have hz : (w.alloc (.cells #[.int .i64 x, .int .i64 y, .int .i64 u] 69)).heap[w.heap.size]? = some (.cells #[.int .i64 x, .int .i64 y, .int .i64 u] 69 (0, 0)) := (MapKept.heap_alloc w _).1
  have h1 := h.fresh tA
  have GN := Lib.hid (fgone_no h1.fr h1.cl)
  have RT := Lib.hid (fun w => right_no x y u hx w)
  have TA := Lib.hid tA
  clear h h1 tA hx
  go_enter Try.func37, Try.ntmps37
  go_wp2_with fail
  refine GN.out.mono ?_
  rintro e w1 ⟨rfl, rfl⟩
  have dz : ∀ j, (w.alloc (.cells #[.int .i64 x, .int .i64 y, .int .i64 u] 69)).cell? ⟨w.heap.size, j, Option.none⟩ = (#[.int .i64 x, .int .i64 y, .int .i64 u] : Array Value)[j]? := fun j => cell_of_row _ _ _ _ _ _ hz
  go_wp2_with fail
  refine (RT.out _).mono ?_
  rintro e w2 ⟨rfl, t2⟩
  have T2 := Lib.hid (TA.out.trans t2)
  clear t2 dz
  go_wp2_with fail
  go_ret
  exact ⟨rfl, T2.out⟩

set_option maxRecDepth 100000 in
set_option maxHeartbeats 1000000 in
theorem fpush_full (h : FOn w q p S A R m) (x : Fm) (hx : x.ok) (hm : m.length = S.cells) :
    Calls Try.prog 37 #[.pointer (some ⟨q, 0, Option.none⟩), .agg x.cells] w fun e w' => e = .returned (.int .i64 11) ∧ Touch (fun _ => False) w w' := by
  have hlen := h.has.len
  have tA : Touch (fun _ => False) w (w.alloc (.cells x.cells 69)) := Touch.alloc _ w _
  have hz : (w.alloc (.cells x.cells 69)).heap[w.heap.size]? = some (.cells x.cells 69 (0, 0)) := (MapKept.heap_alloc w _).1
  have h1 := h.fresh tA
  have GN := Lib.hid (fgone_no h1.fr h1.cl)
  have RT := Lib.hid (fun w => right_ok x hx w)
  have e1 : S.h = S.cells := by omega
  have H1 := Lib.hid h1
  clear h h1
  unfold Fm.cells at *
  go_enter Try.func37, Try.ntmps37
  go_wp2_with fail
  refine GN.out.mono ?_
  rintro e w1 ⟨rfl, rfl⟩
  have dz : ∀ j, (w.alloc (.cells #[.int .i64 x.f, .int .i64 x.p, .int .i64 x.b] 69)).cell? ⟨w.heap.size, j, Option.none⟩ = (#[.int .i64 x.f, .int .i64 x.p, .int .i64 x.b] : Array Value)[j]? := fun j => cell_of_row _ _ _ _ _ _ hz
  go_wp2_with fail
  refine (RT.out _).mono ?_
  rintro e w2 ⟨rfl, t2⟩
  have h2 := H1.out.fresh t2
  have c3 := h2.fr.c3
  have c2 := h2.fr.c2
  rw [← e1] at c2
  have T2 := Lib.hid (tA.trans t2)
  clear H1 t2 h2 tA dz GN RT hz e1 hm hlen
  go_wp2_with fail
  go_quiet (fail)
  have T3 := Lib.hid (T2.out.trans (Touch.drewN _ w2 nq))
  go_wp2_with fail
  go_ret
  exact ⟨rfl, T3.out⟩

theorem fpop_range (h : FOn w q p S A R []) : Calls Try.prog 38 #[.pointer (some ⟨q, 0, Option.none⟩)] w fun e w' => e = .returned (.tuple #[.agg z3, .int .i64 2]) ∧ Touch (fun _ => False) w w' :=
  fpop_from _ w 2 (by decide) (fun w1 t => ftop_range (h.fresh t))

set_option maxRecDepth 100000 in
set_option maxHeartbeats 1000000 in
theorem fgo_range (h : FOn w q p S A R []) (pl : Int) : Calls Try.prog 40 #[.pointer (some ⟨q, 0, Option.none⟩), .int .i64 pl] w fun e w' => e = .returned (.int .i64 2) ∧ Touch (fun _ => False) w w' := by
  have TP := Lib.hid (ftop_range h)
  clear h
  go_enter Try.func40, Try.ntmps40
  go_wp2_with fail
  refine TP.out.mono ?_
  rintro e w2 ⟨rfl, t2⟩
  have T2 := Lib.hid (t2.trans (Touch.alloc _ w2 (.cells z3 69)))
  clear t2
  go_wp2_with fail
  go_ret
  exact ⟨rfl, T2.out⟩

set_option maxRecDepth 100000 in
set_option maxHeartbeats 1000000 in
theorem fgo_arg {x : Fm} (h : FOn w q p S A R (m ++ [x])) (pl : Int) (hpl : smallN pl = false) :
    Calls Try.prog 40 #[.pointer (some ⟨q, 0, Option.none⟩), .int .i64 pl] w fun e w' => e = .returned (.int .i64 1) ∧ Touch (fun _ => False) w w' := by
  have hxo := h.ok x (by simp)
  have TP := Lib.hid (ftop_ok h)
  have RT := Lib.hid (fun w => right_no x.f pl x.b (by simp [okI, hpl]) w)
  have he : ¬ pl = (x.p : Int) := by
    rintro rfl
    rw [(smallN_iff _).2 ⟨by omega, by have := hxo.2.1; omega⟩] at hpl
    cases hpl
  clear h
  unfold Fm.cells at *
  go_enter Try.func40, Try.ntmps40
  go_wp2_with fail
  refine TP.out.mono ?_
  rintro e w2 ⟨rfl, t2⟩
  have tB : Touch (fun _ => False) w2 ((w2.alloc (.cells #[.int .i64 x.f, .int .i64 x.p, .int .i64 x.b] 69)).alloc (.cells #[.int .i64 x.f, .int .i64 pl, .int .i64 x.b] 69)) := (Touch.alloc _ _ _).trans (Touch.alloc _ _ _)
  have hy : ((w2.alloc (.cells #[.int .i64 x.f, .int .i64 x.p, .int .i64 x.b] 69)).alloc (.cells #[.int .i64 x.f, .int .i64 pl, .int .i64 x.b] 69)).heap[w2.heap.size + 1]? = some (.cells #[.int .i64 x.f, .int .i64 pl, .int .i64 x.b] 69 (0, 0)) := by
    have := (MapKept.heap_alloc (w2.alloc (.cells #[.int .i64 x.f, .int .i64 x.p, .int .i64 x.b] 69)) (.cells #[.int .i64 x.f, .int .i64 pl, .int .i64 x.b] 69)).1
    simpa using this
  have HY := Lib.hid hy
  have T3 := Lib.hid (t2.trans tB)
  clear t2 tB hy
  go_wp2_with fail
  refine (RT.out _).mono ?_
  rintro e w4 ⟨rfl, t4⟩
  have T4 := Lib.hid (T3.out.trans t4)
  clear t4 T3 HY
  go_wp2_with fail
  go_ret
  exact ⟨rfl, T4.out⟩

theorem fgone_yes (h : FrAt w q p S) (hc : S.closed = true) : Calls Try.prog 59 #[.pointer (some ⟨q, 0, Option.none⟩)] w fun e w' => e = .returned (.bool true) ∧ w = w' := by
  have c4 := h.c4
  rw [hc] at c4
  go_enter Try.func59, Try.ntmps59
  go_wp2_with fail
  go_ret
  exact ⟨rfl, rfl⟩
theorem fdepth_gone (h : FrAt w q p S) (hc : S.closed = true) : Calls Try.prog 39 #[.pointer (some ⟨q, 0, Option.none⟩)] w fun e w' => e = .returned (.int .i64 0) ∧ w = w' := by
  have GN := Lib.hid (fgone_yes h hc)
  clear h hc
  go_enter Try.func39, Try.ntmps39
  go_wp2_with fail
  refine GN.out.mono ?_
  rintro e w1 ⟨rfl, rfl⟩
  go_wp2_with fail
  go_ret
  exact ⟨rfl, rfl⟩
theorem fclose_gone (h : FrAt w q p S) (hc : S.closed = true) : Calls Try.prog 47 #[.pointer (some ⟨q, 0, Option.none⟩)] w fun e w' => e = .returned (.int .i64 12) ∧ w = w' := by
  have GN := Lib.hid (fgone_yes h hc)
  clear h hc
  go_enter Try.func47, Try.ntmps47
  go_wp2_with fail
  refine GN.out.mono ?_
  rintro e w1 ⟨rfl, rfl⟩
  go_wp2_with fail
  go_ret
  exact ⟨rfl, rfl⟩
def FClosePost (q p : Nat) (S : Sk) (A : Ar) (R : Rp) (c : Int) (w : World) (e : Ending) (w' : World) : Prop :=
  ∃ R', e = .returned (.int .i64 0) ∧ FrAt w' q p { S with closed := true } ∧ ArAt w' p (A.gave S.o c) R' ∧ Touch (fun k => k = q ∨ fp R p k) w w'
theorem fclose (h : FOn w q p S A R m) (c : Int) (hx : A.taken S.o = some c) (hlen : (A.rooms c).length ≤ 1000000) (hl1 : -1099511627776 ≤ A.live) (hl2 : A.live ≤ 1099511627776) :
    Calls Try.prog 47 #[.pointer (some ⟨q, 0, Option.none⟩)] w (FClosePost q p S A R c w) := by
  have GN := Lib.hid (fgone_no h.fr h.cl)
  have c0 := h.fr.c0
  have c1 := h.fr.c1
  have f4 := h.fr.fz 4
  have c4 := h.fr.c4
  rw [h.cl] at c4
  have t1 : Touch (· = q) w (w.setCell ⟨q, 4, Option.none⟩ (.bool true)) := Touch.cell1 w q 4 _
  have s1 : FrAt (w.setCell ⟨q, 4, Option.none⟩ (.bool true)) q p { S with closed := true } := h.fr.stored 4 _ (by simp [Sk.row]) h.fr.hh h.fr.hc h.fr.ho
  have a1 : ArAt (w.setCell ⟨q, 4, Option.none⟩ (.bool true)) p A R := h.ar.kept t1 (fun j hj e => by rw [e] at hj; exact h.fr.off h.ar hj)
  have d0 := s1.c0
  have d1 : (w.setCell ⟨q, 4, Option.none⟩ (.bool true)).cell? ⟨q, 1, Option.none⟩ = some (.int .i64 S.o) := s1.c1
  have GV := Lib.hid (give_ok a1.drew S.o c hx hlen hl1 hl2)
  have off := Lib.hid (h.fr.off h.ar)
  have ltq := h.fr.ltq
  have FIN : Hid (∀ w2 R', ArAt w2 p (A.gave S.o c) R' → Step (w.setCell ⟨q, 4, Option.none⟩ (.bool true)).drew w2 p R R' → FClosePost q p S A R c w (.returned (.int .i64 0)) w2) := Lib.hid (by
    intro w2 R' a2 st
    refine ⟨R', rfl, (s1.kept (Touch.drew (fun _ => False) _) (fun h => h)).kept st.touch off.out, a2, ?_⟩
    exact (t1.trans' (Touch.drew (fun _ => False) _) (H := fun k => k = q ∨ fp R p k) (fun _ _ h => .inl h) (fun _ _ h => h.elim)).trans' st.touch (fun _ _ h => h) (fun _ _ h => .inr h))
  clear h s1 t1 a1
  go_enter Try.func47, Try.ntmps47
  go_wp2_with fail
  refine GN.out.mono ?_
  rintro e w1 ⟨rfl, rfl⟩
  go_wp2_with fail
  go_region_with (go_at_call 21; (with_reducible refine GV.out.mono ?_); rintro e w2 ⟨R', rfl, a2, st⟩)
  all_goals
    go_wp2_with fail
    go_ret
    exact FIN.out _ _ a2 st
theorem fnew_full (cells : Nat) (h1 : 1 ≤ cells) (h2 : cells ≤ 10000) (TK : Calls Try.prog 18 #[.pointer (some ⟨p, 0, Option.none⟩), .int .i64 (12 * (cells : Int))] w fun e w' => e = .returned (.tuple #[.int .i64 0, .int .i64 8]) ∧ ∃ n, w' = w.drewN n) :
    Calls Try.prog 36 #[.pointer (some ⟨p, 0, Option.none⟩), .int .i64 cells] w fun e w' => e = .returned (.tuple #[.pointer Option.none, .int .i64 8]) ∧ ∃ n, w' = w.drewN n := by
  have HT := Lib.hid TK
  clear TK
  go_enter Try.func36, Try.ntmps36
  go_wp2_with fail
  refine HT.out.mono ?_
  rintro e w2 ⟨rfl, n, rfl⟩
  go_wp2_with fail
  go_ret2
  exact ⟨rfl, n, rfl⟩
theorem fnew_arg (a : Addr) (cells : Int) (h : cells < 1 ∨ 10000 < cells) (w : World) :
    Calls Try.prog 36 #[.pointer (some a), .int .i64 cells] w fun e w' => e = .returned (.tuple #[.pointer Option.none, .int .i64 1]) ∧ w = w' := by
  by_cases h0 : cells < 1
  · go_enter Try.func36, Try.ntmps36
    go_wp2_with fail
    go_ret2
    exact ⟨rfl, rfl⟩
  · have h1 : 10000 < cells := by omega
    go_enter Try.func36, Try.ntmps36
    go_wp2_with fail
    go_ret2
    exact ⟨rfl, rfl⟩
/-- The law's own test of a number. -/
theorem lsmall_any (n : Int) (w : World) : Calls Try.prog 48 #[.int .i64 n] w fun e w' => e = .returned (.bool (smallN n)) ∧ w = w' := by
  by_cases h0 : 0 ≤ n
  · by_cases h1 : n ≤ 4294967295
    · have hs : smallN n = true := by simp [smallN, h0, h1]
      rw [hs]
      go_enter Try.func48, Try.ntmps48
      go_wp2_with fail
      go_ret
      exact ⟨rfl, rfl⟩
    · have hs : smallN n = false := by simp [smallN, h1]
      rw [hs]
      go_enter Try.func48, Try.ntmps48
      go_wp2_with fail
      go_ret
      exact ⟨rfl, rfl⟩
  · have hs : smallN n = false := by simp [smallN, h0]
    rw [hs]
    go_enter Try.func48, Try.ntmps48
    go_wp2_with fail
    go_ret
    exact ⟨rfl, rfl⟩
end Go.Proofs.Ytmjnoboeffajbaa
