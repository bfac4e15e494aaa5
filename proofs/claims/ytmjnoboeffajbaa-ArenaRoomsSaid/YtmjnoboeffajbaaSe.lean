/- A stack in its arena with what it holds: pushing, taking, popping, getting, unwinding. -/
import Derived.Test.YtmjnoboeffajbaaSd
namespace Go.Proofs.Ytmjnoboeffajbaa
open Go.RowKit Go.Maps
set_option linter.unusedSimpArgs false
set_option linter.unusedVariables false

variable {w w' : World} {q p : Nat} {S : Sk} {A : Ar} {R : Rp} {m : List Nat}

structure SOn (w : World) (q p : Nat) (S : Sk) (A : Ar) (R : Rp) (m : List Nat) : Prop where
  sk : SkAt w q p S
  ar : ArAt w p A R
  cl : S.closed = false
  good : Good A.b
  room : S.o + 8 * S.cells ≤ A.n
  has : Has S A.b m

theorem SOn.kept (h : SOn w q p S A R m) {F : Nat → Prop} (t : Touch F w w') (hq : ¬ F q) (hf : ∀ k, fp R p k → ¬ F k) : SOn w' q p S A R m :=
  ⟨h.sk.kept t hq, h.ar.kept t hf, h.cl, h.good, h.room, h.has⟩
theorem SOn.fresh (h : SOn w q p S A R m) (t : Touch (fun _ => False) w w') : SOn w' q p S A R m := h.kept t (fun h => h) (fun _ _ h => h)
theorem SOn.le (h : SOn w q p S A R m) : m.length ≤ S.cells := by rw [h.has.len]; exact h.sk.hh

theorem src_one (w : World) (v : Nat) (hv : v < 18446744073709551616) (F : Nat → Prop) (hF : ¬ F w.heap.size) : Src (w.alloc (.cells #[.int .u64 v] 47)) (some ⟨w.heap.size, 0, Option.none⟩) [v] F := by
  intro j hj
  have h0 : j = 0 := by simp at hj; exact hj
  subst h0
  exact ⟨w.heap.size, 0, rfl, by rw [cell_of_row _ _ _ _ _ _ (MapKept.heap_alloc w _).1]; rfl, hv, hF⟩

theorem src_own {x : Option Addr} {n cap : Nat} {l : List Nat} (h : w.ownsRow 0 47 1 (.slice x n cap) n (uvals l)) (hl : l.length = n) (hb : ∀ v ∈ l, v < 18446744073709551616) {F : Nat → Prop} (hF : ∀ k, (Value.slice x n cap).ownBlock = some k → ¬ F k) : Src w x l F := by
  intro j hj
  rcases h.2 with ⟨hv, h0⟩ | ⟨g, c, cur, hv, h1, h2, h3, h4, h5, h6⟩
  · omega
  · cases hv
    refine ⟨g, 0, rfl, ?_, ?_, hF g rfl⟩
    · rw [cell_of_row _ _ _ _ _ _ h2]
      have h7 : (cur.toList.take (n * 1))[j]? = (uvals l)[j]? := by rw [h6]
      rw [List.getElem?_take, if_pos (by omega)] at h7
      simp only [uvals, List.getElem?_map, List.getElem?_eq_getElem hj, Option.map_some] at h7
      rw [List.getD_eq_getElem?_getD, List.getElem?_eq_getElem hj]
      simpa using h7
    · rw [List.getD_eq_getElem?_getD, List.getElem?_eq_getElem hj]
      exact hb _ (List.getElem_mem _)

/-- What a change of a stack comes to. -/
def SChg (q p : Nat) (S : Sk) (A : Ar) (R : Rp) (m' : List Nat) (v : Value) (w : World) (e : Ending) (w' : World) : Prop :=
  ∃ S' b', e = .returned v ∧ S'.o = S.o ∧ S'.cells = S.cells ∧ SOn w' q p S' { A with b := b' } R m' ∧ (∀ n y, y + n ≤ S.o ∨ S.o + 8 * S.cells ≤ y → rd n b' y = rd n A.b y) ∧ b'.length = A.b.length ∧ Touch (fun k => k = q ∨ k = R.buf) w w'

theorem spush (h : SOn w q p S A R m) (l : List Nat) (hl : m.length + l.length ≤ S.cells) (x : Option Addr) (c : Nat) (hs : Src w x l (fun k => k = q ∨ k = R.buf)) :
    Calls Try.prog 32 #[.pointer (some ⟨q, 0, Option.none⟩), .slice x l.length c] w (SChg q p S A R (m ++ l) (.int .i64 0) w) := by
  have hh := h.has.len
  refine (push_ok h.sk h.ar h.cl h.good h.room l (by omega) x c hs).mono ?_
  rintro e w' ⟨b', rfl, s, a, hp, t⟩
  refine ⟨{ S with h := S.h + l.length }, b', rfl, rfl, rfl, ⟨s, a, h.cl, hp.good, h.room, h.has.push hp⟩, fun n y hy => hp.old n y ?_, hp.len, t⟩
  have := h.sk.hh
  omega

theorem spop (h : SOn w q p S A R m) (v : Nat) (m' : List Nat) (hm : m = m' ++ [v]) :
    Calls Try.prog 33 #[.pointer (some ⟨q, 0, Option.none⟩)] w (SChg q p S A R m' (.tuple #[.int .u64 v, .int .i64 0]) w) := by
  have hh := h.has.len
  rw [hm] at hh
  simp at hh
  have hg : m.getD (S.h - 1) 0 = v := by
    rw [hm, ← hh]; simp
  have := spop_ok h.sk h.ar h.cl h.good h.room (by omega) h.has
  rw [hg] at this
  refine this.mono ?_
  rintro e w' ⟨rfl, s, a, t⟩
  have h2 := h.has.take 1 (by omega)
  have h3 : m.take (S.h - 1) = m' := by rw [hm, ← hh]; simp
  rw [h3] at h2
  exact ⟨{ S with h := S.h - 1 }, A.b, rfl, rfl, rfl, ⟨s, a, h.cl, h.good, h.room, h2⟩, fun _ _ _ => rfl, rfl, t.mono (fun _ _ h => .inl h)⟩

theorem spop_empty (h : SOn w q p S A R []) : Calls Try.prog 33 #[.pointer (some ⟨q, 0, Option.none⟩)] w fun e w' => e = .returned (.tuple #[.int .u64 0, .int .i64 2]) ∧ w = w' :=
  spop_range h.sk h.cl (by rw [← h.has.len]; rfl)

def STook (q p : Nat) (S : Sk) (A : Ar) (R : Rp) (m : List Nat) (n : Nat) (w : World) (e : Ending) (w' : World) : Prop :=
  ∃ x cap, e = .returned (.tuple #[.slice x n cap, .int .i64 0]) ∧ w'.ownsRow 0 47 1 (.slice x n cap) n (uvals (m.drop (m.length - n))) ∧ (∀ k, (Value.slice x n cap).ownBlock = some k → w.heap.size ≤ k) ∧
    SOn w' q p { S with h := S.h - n } A R (m.take (m.length - n)) ∧ Touch (· = q) w w'

theorem stake (h : SOn w q p S A R m) (n : Nat) (hn : n ≤ m.length) : Calls Try.prog 34 #[.pointer (some ⟨q, 0, Option.none⟩), .int .i64 n] w (STook q p S A R m n w) := by
  have hh := h.has.len
  refine (stake_ok h.sk h.ar h.cl h.good h.room n (by omega)).mono ?_
  rintro e w' ⟨x, cap, rfl, ho, hf, s, a, t⟩
  have h1 := h.has.words n (by omega)
  have h2 := h.has.take n (by omega)
  rw [h1, ← hh] at ho
  refine ⟨x, cap, rfl, ho, hf, ⟨s, a, h.cl, h.good, h.room, ?_⟩, t⟩
  rw [hh]; exact h2

theorem has_lt (hm : Has S A.b m) (hb : Good A.b) : ∀ v ∈ m, v < 18446744073709551616 := by
  intro v hv
  obtain ⟨i, hi, rfl⟩ := List.mem_iff_getElem.1 hv
  have := hm.word i (by rw [← hm.len]; exact hi)
  rw [List.getD_eq_getElem?_getD, List.getElem?_eq_getElem hi] at this
  simp only [Option.getD_some] at this
  rw [← this]
  exact rd_lt hb 8 _

set_option maxRecDepth 100000 in
set_option maxHeartbeats 1000000 in
theorem sunwind (h : SOn w q p S A R m) (keep height : Nat) (h1 : height ≤ m.length) (h2 : keep ≤ m.length - height) :
    Calls Try.prog 42 #[.pointer (some ⟨q, 0, Option.none⟩), .int .i64 keep, .int .i64 height] w (SChg q p S A R (m.take height ++ m.drop (m.length - keep)) (.int .i64 0) w) := by
  have hh := h.has.len
  have h3 := h.sk.hh
  have h4 := h.sk.hc
  have GN := Lib.hid (gone_no h.sk h.cl)
  have TK := Lib.hid (stake h keep (by omega))
  have c3 := h.sk.c3
  have hq := h.sk.ltq
  have H := Lib.hid h
  have LT := Lib.hid (show ∀ j, fp R p j → j < w.heap.size from fun j hj => h.ar.lt_fp hj)
  have e1 : IntKind.i64.wrap ((S.h : Int) - (height : Int)) = (S.h : Int) - (height : Int) := IntWalk.i64_in _ (by omega)
  have d1 : ¬ ((keep : Int) < 0) := by omega
  have d2 : ¬ ((height : Int) < 0) := by omega
  have d3 : ¬ ((S.h : Int) < (height : Int)) := by omega
  have d4 : ¬ ((S.h : Int) - (height : Int) < (keep : Int)) := by omega
  have HH := Lib.hid hh
  clear h hh
  go_enter Try.func42, Try.ntmps42
  go_wp2_with fail
  refine GN.out.mono ?_
  rintro e w1 ⟨rfl, rfl⟩
  go_wp2_with fail
  refine TK.out.mono ?_
  rintro e w2 ⟨x, cap, rfl, ho, hf, s2, t2⟩
  have f3 := s2.sk.fz 3
  have d3' := s2.sk.c3
  have s3 : SkAt (w2.setCell ⟨q, 3, Option.none⟩ (.int .i64 height)) q p { S with h := height } :=
    s2.sk.stored 3 _ (by simp [Sk.row]) (by show height ≤ S.cells; have := HH.out; omega) s2.sk.hc s2.sk.ho
  have t3 : Touch (· = q) w2 (w2.setCell ⟨q, 3, Option.none⟩ (.int .i64 height)) := Touch.cell1 w2 q 3 _
  have a3 := s2.ar.kept t3 (fun j hj e => by rw [e] at hj; exact s2.sk.off s2.ar hj)
  have hs3 : Has { S with h := height } A.b (m.take height) := by
    have := H.out.has.take (S.h - height) (by have := HH.out; omega)
    rw [show S.h - (S.h - height) = height by have := HH.out; omega] at this
    exact this
  have on3 : SOn (w2.setCell ⟨q, 3, Option.none⟩ (.int .i64 height)) q p { S with h := height } A R (m.take height) := ⟨s3, a3, H.out.cl, H.out.good, H.out.room, hs3⟩
  have ho3 := ownsRow_touch t3 ho (fun k hk e => by have := hf k hk; omega)
  have hlen : (m.drop (m.length - keep)).length = keep := by simp; omega
  have hsrc : Src (w2.setCell ⟨q, 3, Option.none⟩ (.int .i64 height)) x (m.drop (m.length - keep)) (fun k => k = q ∨ k = R.buf) :=
    src_own ho3 hlen (fun v hv => has_lt H.out.has H.out.good v (List.mem_of_mem_drop hv)) (fun k hk e => by
      have h5 := hf k hk
      rcases e with e | e
      · omega
      · have := LT.out k (.inr (.inl e)); omega)
  have PU := spush on3 (m.drop (m.length - keep)) (by rw [hlen]; simp; have := HH.out; omega) x cap hsrc
  rw [hlen] at PU
  have PU2 := Lib.hid PU
  have T3 := Lib.hid (t2.trans t3)
  clear PU hsrc ho3 on3 hs3 a3 t3 s3 ho hf s2 t2 hlen TK
  go_wp2_with fail
  refine PU2.out.mono ?_
  rintro e w4 ⟨S', b', rfl, o1, o2, on4, old, bl, t4⟩
  have T4 := Lib.hid ((T3.out.mono (fun _ _ h => Or.inl h : ∀ k, k < w.heap.size → k = q → (k = q ∨ k = R.buf))).trans t4)
  go_wp2_with fail
  go_ret
  exact ⟨S', b', rfl, o1, o2, on4, old, bl, T4.out⟩
end Go.Proofs.Ytmjnoboeffajbaa
