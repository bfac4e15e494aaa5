/- Frames: the top one gone on; none left; closed; new ones. -/
import Derived.Test.YtmjnoboeffajbaaFe
namespace Go.Proofs.Ytmjnoboeffajbaa
open Go.RowKit Go.Maps
set_option linter.unusedSimpArgs false
set_option linter.unusedVariables false

variable {w w' : World} {q p : Nat} {S : Sk} {A : Ar} {R : Rp} {m : List Fm}

theorem FHas.reput {b : List Int} {x y : Fm} (h : FHas S b (m ++ [x])) (hy : y.ok) (hl : S.o + 12 * (S.h - 1) + 12 ≤ b.length) : FHas S (putN b (S.o + 12 * (S.h - 1)) y 3) (m ++ [y]) where
  len := by have := h.len; simp at this; simp; omega
  fr := by
    have hlen := h.len
    simp at hlen
    intro i z hz
    by_cases hi : i < m.length
    · have hz' := hz
      rw [List.getElem?_append_left hi] at hz
      rw [rdF_old hl (.inl (by omega))]
      exact h.fr i z (by rw [List.getElem?_append_left hi]; exact hz)
    · rw [List.getElem?_append_right (by omega)] at hz
      have h0 : i - m.length = 0 := by
        have := (List.getElem?_eq_some_iff.1 hz).1
        simpa using this
      rw [h0] at hz
      simp at hz
      subst hz
      rw [show i = S.h - 1 by omega]
      exact rdF_same hl hy

set_option maxRecDepth 100000 in
set_option maxHeartbeats 1000000 in
theorem fgo {x : Fm} (h : FOn w q p S A R (m ++ [x])) (pl : Nat) (hpl : pl ≤ 4294967295) :
    Calls Try.prog 40 #[.pointer (some ⟨q, 0, Option.none⟩), .int .i64 pl] w (FChg q p S A R (m ++ [⟨x.f, pl, x.b⟩]) (.int .i64 0) w) := by
  have hlen := h.has.len
  simp at hlen
  have hS := h.fr.hc
  have hh := h.fr.hh
  have hxo := h.ok x (by simp)
  have TP := Lib.hid (ftop_ok h)
  have H1 := Lib.hid h
  have LT := Lib.hid (show ∀ j, fp R p j → j < w.heap.size from fun j hj => h.ar.lt_fp hj)
  have LQ := h.fr.ltq
  have e1 : IntKind.i64.wrap ((S.h : Int) - 1) = (S.h : Int) - 1 := IntWalk.i64_in _ (by omega)
  have RT := Lib.hid (fun w => right_ok ⟨x.f, pl, x.b⟩ ⟨hxo.1, hpl, hxo.2.2⟩ w)
  have hqb : ¬ q = R.buf := fun e => h.fr.off h.ar (.inr (.inl e))
  clear h
  unfold Fm.cells at *
  go_enter Try.func40, Try.ntmps40
  go_wp2_with fail
  refine TP.out.mono ?_
  rintro e w2 ⟨rfl, t2⟩
  have h2 := Lib.hid (H1.out.fresh t2)
  have LW := t2.size
  by_cases he : pl = x.p
  · subst he
    have tB : Touch (fun _ => False) w2 ((w2.alloc (.cells #[.int .i64 x.f, .int .i64 x.p, .int .i64 x.b] 69)).alloc (.cells #[.int .i64 x.f, .int .i64 x.p, .int .i64 x.b] 69)) := (Touch.alloc _ _ _).trans (Touch.alloc _ _ _)
    have FIN := Lib.hid (show FChg q p S A R (m ++ [⟨x.f, x.p, x.b⟩]) (.int .i64 0) w (.returned (.int .i64 0)) ((w2.alloc (.cells #[.int .i64 x.f, .int .i64 x.p, .int .i64 x.b] 69)).alloc (.cells #[.int .i64 x.f, .int .i64 x.p, .int .i64 x.b] 69)) from
      ⟨S, A.b, rfl, rfl, rfl, h2.out.fresh tB, (t2.trans tB).mono (fun _ _ h => h.elim)⟩)
    clear t2 tB h2 H1
    go_wp2_with fail
    go_ret
    exact FIN.out
  · have tB : Touch (fun _ => False) w2 ((w2.alloc (.cells #[.int .i64 x.f, .int .i64 x.p, .int .i64 x.b] 69)).alloc (.cells #[.int .i64 x.f, .int .i64 pl, .int .i64 x.b] 69)) := (Touch.alloc _ _ _).trans (Touch.alloc _ _ _)
    have hy : ((w2.alloc (.cells #[.int .i64 x.f, .int .i64 x.p, .int .i64 x.b] 69)).alloc (.cells #[.int .i64 x.f, .int .i64 pl, .int .i64 x.b] 69)).heap[w2.heap.size + 1]? = some (.cells #[.int .i64 x.f, .int .i64 pl, .int .i64 x.b] 69 (0, 0)) := by
      have := (MapKept.heap_alloc (w2.alloc (.cells #[.int .i64 x.f, .int .i64 x.p, .int .i64 x.b] 69)) (.cells #[.int .i64 x.f, .int .i64 pl, .int .i64 x.b] 69)).1
      simpa using this
    have HY := Lib.hid hy
    have T3 := Lib.hid (t2.trans tB)
    have h3 := Lib.hid (h2.out.fresh tB)
    clear t2 tB h2 H1 hy
    go_wp2_with fail
    refine (RT.out _).mono ?_
    rintro e w4 ⟨rfl, t4⟩
    have h4 := h3.out.fresh t4
    have hy4 := t4.heap (fun h => h) HY.out
    have T4 := Lib.hid ((T3.out.trans t4).trans (Touch.drew _ w4))
    have c3 := h4.fr.c3
    have dz : ∀ j, w4.cell? ⟨w2.heap.size + 1, j, Option.none⟩ = (#[.int .i64 x.f, .int .i64 pl, .int .i64 x.b] : Array Value)[j]? := fun j => cell_of_row _ _ _ _ _ _ hy4
    have h5 : FOn w4.drew q p S A R (m ++ [x]) := h4.fresh (Touch.drew _ _)
    have PT := fput_ok h5.fr h5.ar (S.h - 1) (by omega) h5.room ⟨x.f, pl, x.b⟩ ⟨hxo.1, hpl, hxo.2.2⟩
    rw [show ((S.h - 1 : Nat) : Int) = (S.h : Int) - 1 by omega] at PT
    unfold Fm.cells at PT
    have PT2 := Lib.hid PT
    have H5 := Lib.hid h5
    clear h4 h5 PT hy4 t4 T3 h3 HY RT
    go_wp2_with fail
    go_region_with (go_at_call 61; (with_reducible refine PT2.out.mono ?_); rintro e w6 ⟨rfl, a6, t6⟩)
    all_goals
      have f6 := H5.out.fr.kept t6 hqb
      have hl : S.o + 12 * (S.h - 1) + 12 ≤ A.b.length := by have := H5.out.room; have := H5.out.ar.hbl; omega
      have FIN := Lib.hid (show FChg q p S A R (m ++ [⟨x.f, pl, x.b⟩]) (.int .i64 0) w (.returned (.int .i64 0)) w6 from
        ⟨S, _, rfl, rfl, rfl, ⟨f6, a6, H5.out.cl, good_putN H5.out.good _ _ _, H5.out.room, H5.out.has.reput ⟨hxo.1, hpl, hxo.2.2⟩ hl, fun y hy => by
          rcases List.mem_append.1 hy with hy | hy
          · exact H5.out.ok y (List.mem_append_left _ hy)
          · rw [List.mem_singleton.1 hy]; exact ⟨hxo.1, hpl, hxo.2.2⟩⟩,
          (T4.out.trans' t6 (fun _ _ h => h.elim) (fun _ _ h => .inr h))⟩)
      clear f6 a6 t6 H5 PT2 T4
      go_wp2_with fail
      go_ret
      exact FIN.out

theorem fclear (h : FOn w q p S A R m) :
    Calls Try.prog 46 #[.pointer (some ⟨q, 0, Option.none⟩)] w (FChg q p S A R [] (.tuple #[]) w) := by
  have GN := Lib.hid (fgone_no h.fr h.cl)
  have f3 := h.fr.fz 3
  have c3 := h.fr.c3
  have s5 : FrAt (w.setCell ⟨q, 3, Option.none⟩ (.int .i64 0)) q p { S with h := 0 } :=
    h.fr.stored 3 _ (by simp [Sk.row]) (by show 0 ≤ S.cells; omega) h.fr.hc h.fr.ho
  have t5 : Touch (· = q) w (w.setCell ⟨q, 3, Option.none⟩ (.int .i64 0)) := Touch.cell1 w q 3 _
  have a5 := h.ar.kept t5 (fun j hj e => by rw [e] at hj; exact h.fr.off h.ar hj)
  have FIN := Lib.hid (show FChg q p S A R [] (.tuple #[]) w (.returned (.tuple #[])) (w.setCell ⟨q, 3, Option.none⟩ (.int .i64 0)) from
    ⟨{ S with h := 0 }, A.b, rfl, rfl, rfl, ⟨s5, a5, h.cl, h.good, h.room, FHas.empty _ _ rfl, fun x hx => by cases hx⟩, t5.mono (fun _ _ h => .inl h)⟩)
  clear s5 t5 a5 h
  go_enter Try.func46, Try.ntmps46
  go_wp2_with fail
  refine GN.out.mono ?_
  rintro e w1 ⟨rfl, rfl⟩
  go_wp2_with fail
  go_end0
  exact FIN.out

/-! ### new frames -/
def FMade (p : Nat) (R : Rp) (A' : Ar) (S : Sk) (w : World) (e : Ending) (w' : World) : Prop :=
  ∃ q R', e = .returned (.tuple #[.pointer (some ⟨q, 0, Option.none⟩), .int .i64 0]) ∧ FOn w' q p S A' R' [] ∧ Step w w' p R R' ∧ w.heap.size ≤ q

set_option maxHeartbeats 400000 in
theorem fnew_from (cells x : Nat) (h1 : 1 ≤ cells) (h2 : cells ≤ 10000) (hx : x ≤ 4194304) (A' : Ar) (hg : Good A'.b) (hr : x + 12 * cells ≤ A'.n) (TK : Calls Try.prog 18 #[.pointer (some ⟨p, 0, Option.none⟩), .int .i64 (12 * (cells : Int))] w (TakePost p R x A' w)) :
    Calls Try.prog 36 #[.pointer (some ⟨p, 0, Option.none⟩), .int .i64 cells] w (FMade p R A' ⟨x, cells, 0, false⟩ w) := by
  have HT := Lib.hid TK
  clear TK
  go_enter Try.func36, Try.ntmps36
  go_wp2_with fail
  refine HT.out.mono ?_
  rintro e w2 ⟨R2, rfl, a2, st⟩
  have h0 : w.heap.size ≤ w2.heap.size := st.touch.size
  have t : Touch (fun _ => False) w2 (w2.alloc (Obj.cells #[.pointer (some ⟨p, 0, Option.none⟩), .int .i64 x, .int .i64 cells, .int .i64 0, .bool false] 101)) := Touch.alloc _ _ _
  have FIN := Lib.hid (show FMade p R A' ⟨x, cells, 0, false⟩ w (.returned (.tuple #[.pointer (some ⟨w2.heap.size, 0, Option.none⟩), .int .i64 0])) (w2.alloc (Obj.cells #[.pointer (some ⟨p, 0, Option.none⟩), .int .i64 x, .int .i64 cells, .int .i64 0, .bool false] 101)) from
    ⟨w2.heap.size, R2, rfl, ⟨⟨(MapKept.heap_alloc w2 _).1, Nat.zero_le _, h2, hx⟩, a2.kept t (fun _ _ h => h), rfl, hg, hr, FHas.empty _ _ rfl, fun x hx => by cases hx⟩, st.trans (Step.of R2 (t.mono (fun _ _ h => h.elim))), h0⟩)
  clear a2 st t
  go_wp2_with fail
  go_ret2
  exact FIN.out

theorem fnew (a : ArAt w p A R) (cells : Nat) (h1 : 1 ≤ cells) (h2 : cells ≤ 10000) (c : Nat) (hc : cls (12 * (cells : Int)) = c) (hr : A.rooms c = []) (hp : A.height + c ≤ A.n) (hb : Good A.b) (hl1 : -1099511627776 ≤ A.live) (hl2 : A.live ≤ 1099511627776) :
    Calls Try.prog 36 #[.pointer (some ⟨p, 0, Option.none⟩), .int .i64 cells] w (FMade p R ({ A with height := A.height + c }.took A.height c) ⟨A.height, cells, 0, false⟩ w) := by
  subst hc
  have he : (12 * (cells : Int)) ≤ cls (12 * (cells : Int)) := cls_enough (by omega)
  have hn := a.hn
  refine fnew_from cells A.height h1 h2 (by omega) _ (good_over hb (good_zeros _)) ?_ (take_fresh a _ (by omega) (by omega) hr hp hl1 hl2)
  show A.height + 12 * cells ≤ A.n
  omega
end Go.Proofs.Ytmjnoboeffajbaa
