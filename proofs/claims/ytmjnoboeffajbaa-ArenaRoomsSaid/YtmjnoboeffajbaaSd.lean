/- What popping, getting, setting, unwinding a stack does; what a stack holds, told as a list. -/
import Derived.Test.YtmjnoboeffajbaaSc
namespace Go.Proofs.Ytmjnoboeffajbaa
open Go.RowKit Go.Maps
set_option linter.unusedSimpArgs false
set_option linter.unusedVariables false

variable {w w' : World} {q p : Nat} {S : Sk} {A : Ar} {R : Rp}

/-- The words that a stack holds. -/
structure Has (S : Sk) (b : List Int) (m : List Nat) : Prop where
  len : m.length = S.h
  word : ∀ i, i < S.h → rd 8 b (S.o + 8 * i) = m.getD i 0

theorem Has.empty (S : Sk) (b : List Int) (h : S.h = 0) : Has S b [] := ⟨by simp [h], fun i hi => by omega⟩

theorem Has.push {b b' : List Int} {m l : List Nat} (h : Has S b m) (hp : Pushed S b b' l) : Has { S with h := S.h + l.length } b' (m ++ l) where
  len := by simp [h.len]
  word := by
    intro i hi
    have hi' : i < S.h + l.length := hi
    show rd 8 b' (S.o + 8 * i) = _
    by_cases hlt : i < S.h
    · rw [hp.old 8 _ (.inl (by omega)), h.word i hlt]
      simp [List.getD_eq_getElem?_getD, List.getElem?_append_left (show i < m.length by rw [h.len]; exact hlt)]
    · have := hp.new (i - S.h) (by omega)
      rw [show S.h + (i - S.h) = i by omega] at this
      rw [this]
      simp [List.getD_eq_getElem?_getD, List.getElem?_append_right (show m.length ≤ i by rw [h.len]; omega), h.len]

theorem Has.other {S' : Sk} {b b' : List Int} {m l : List Nat} (h : Has S' b m) (hp : Pushed S b b' l) (hd : S'.o + 8 * S'.h ≤ S.o + 8 * S.h ∨ S.o + 8 * (S.h + l.length) ≤ S'.o) : Has S' b' m where
  len := h.len
  word := fun i hi => by rw [hp.old 8 _ (by omega), h.word i hi]

theorem Has.take {b : List Int} {m : List Nat} (h : Has S b m) (n : Nat) (hn : n ≤ S.h) : Has { S with h := S.h - n } b (m.take (S.h - n)) where
  len := by simp [h.len]
  word := fun i hi => by
    have hi' : i < S.h - n := hi
    show rd 8 b (S.o + 8 * i) = _
    rw [h.word i (by omega)]
    simp [List.getD_eq_getElem?_getD, List.getElem?_take, hi']

theorem Has.words {b : List Int} {m : List Nat} (h : Has S b m) (n : Nat) (hn : n ≤ S.h) : topWords S b n = m.drop (S.h - n) := by
  apply List.ext_getElem?
  intro i
  by_cases hi : i < n
  · rw [List.getElem?_drop, topWords, List.getElem?_map, List.getElem?_range hi]
    simp only [Option.map_some]
    rw [h.word _ (by omega)]
    have hlt : S.h - n + i < m.length := by rw [h.len]; omega
    rw [List.getD_eq_getElem?_getD, List.getElem?_eq_getElem hlt]; rfl
  · rw [List.getElem?_eq_none (by rw [topWords_length]; omega), List.getElem?_eq_none (by rw [List.length_drop, h.len]; omega)]

/-! ### out of range, gone -/
set_option maxHeartbeats 400000 in
theorem stake_range (h : SkAt w q p S) (hc : S.closed = false) (n : Int) (hn : n < 0 ∨ (S.h : Int) < n) :
    Calls Try.prog 34 #[.pointer (some ⟨q, 0, Option.none⟩), .int .i64 n] w fun e w' => e = .returned (.tuple #[.slice Option.none 0 0, .int .i64 2]) ∧ w = w' := by
  have GN := Lib.hid (gone_no h hc)
  have c3 := h.c3
  clear hc h
  by_cases h0 : n < 0
  · clear hn
    go_enter Try.func34, Try.ntmps34
    go_wp2_with fail
    refine GN.out.mono ?_
    rintro e w1 ⟨rfl, rfl⟩
    go_wp2_with fail
    go_ret2
    exact ⟨rfl, rfl⟩
  · have h1 : (S.h : Int) < n := by omega
    clear hn
    go_enter Try.func34, Try.ntmps34
    go_wp2_with fail
    refine GN.out.mono ?_
    rintro e w1 ⟨rfl, rfl⟩
    go_wp2_with fail
    go_ret2
    exact ⟨rfl, rfl⟩

def SPopPost (q p : Nat) (S : Sk) (A : Ar) (R : Rp) (v : Nat) (w : World) (e : Ending) (w' : World) : Prop :=
  e = .returned (.tuple #[.int .u64 v, .int .i64 0]) ∧ SkAt w' q p { S with h := S.h - 1 } ∧ ArAt w' p A R ∧ Touch (· = q) w w'

set_option maxHeartbeats 400000 in
theorem spop_ok (h : SkAt w q p S) (a : ArAt w p A R) (hc : S.closed = false) (hb : Good A.b) (ho : S.o + 8 * S.cells ≤ A.n) (hn : 0 < S.h) {m : List Nat} (hm : Has S A.b m) :
    Calls Try.prog 33 #[.pointer (some ⟨q, 0, Option.none⟩)] w (SPopPost q p S A R (m.getD (S.h - 1) 0) w) := by
  have TK := Lib.hid (stake_ok h a hc hb ho 1 hn)
  have HW := hm.words 1 hn
  have hget : m.drop (S.h - 1) = [m.getD (S.h - 1) 0] := by
    have hlt : S.h - 1 < m.length := by rw [hm.len]; omega
    rw [List.drop_eq_getElem_cons hlt, List.getD_eq_getElem?_getD, List.getElem?_eq_getElem hlt]
    rw [List.drop_eq_nil_of_le (by rw [hm.len]; omega)]; rfl
  rw [hget] at HW
  generalize m.getD (S.h - 1) 0 = v at *
  have HW2 := Lib.hid HW
  clear h a hc hm HW hget
  go_enter Try.func33, Try.ntmps33
  go_wp2_with fail
  refine TK.out.mono ?_
  rintro e w2 ⟨x, cap, rfl, ho2, hf, s2, a2, t2⟩
  rw [HW2.out] at ho2
  rcases ho2.2 with ⟨hv, h⟩ | ⟨g, c, cur, hv, h1, h2, h3, h4, h5, h6⟩
  · omega
  · cases hv
    have hcell : w2.cell? ⟨g, 0, Option.none⟩ = some (.int .u64 (v : Int)) := by
      rw [cell_of_row _ _ _ _ _ _ h2]
      have h7 : (cur.toList.take (1 * 1))[0]? = some (.int .u64 (v : Int)) := by rw [h6]; simp [uvals]
      simpa [List.getElem?_take] using h7
    have FIN := Lib.hid (show SPopPost q p S A R v w (.returned (.tuple #[.int .u64 v, .int .i64 0])) w2 from ⟨rfl, s2, a2, t2⟩)
    clear ho2 hf s2 a2 t2 h2 h3 h4 h5 h6 TK
    go_wp2_with fail
    go_ret2
    exact FIN.out

theorem spop_range (h : SkAt w q p S) (hc : S.closed = false) (hn : S.h = 0) :
    Calls Try.prog 33 #[.pointer (some ⟨q, 0, Option.none⟩)] w fun e w' => e = .returned (.tuple #[.int .u64 0, .int .i64 2]) ∧ w = w' := by
  have TK := Lib.hid (stake_range h hc 1 (.inr (by omega)))
  clear h hc
  go_enter Try.func33, Try.ntmps33
  go_wp2_with fail
  refine TK.out.mono ?_
  rintro e w2 ⟨rfl, rfl⟩
  go_wp2_with fail
  go_ret2
  exact ⟨rfl, rfl⟩

/-! ### one cell -/
theorem suse_ok (h : SkAt w q p S) (hc : S.closed = false) (i : Nat) (hi : i < S.h) :
    Calls Try.prog 63 #[.pointer (some ⟨q, 0, Option.none⟩), .int .i64 i] w fun e w' => e = .returned (.int .i64 0) ∧ w = w' := by
  have GN := Lib.hid (gone_no h hc)
  have c3 := h.c3
  clear hc h
  go_enter Try.func63, Try.ntmps63
  go_wp2_with fail
  refine GN.out.mono ?_
  rintro e w1 ⟨rfl, rfl⟩
  go_wp2_with fail
  go_ret
  exact ⟨rfl, rfl⟩
theorem suse_range (h : SkAt w q p S) (hc : S.closed = false) (i : Int) (hi : i < 0 ∨ (S.h : Int) ≤ i) :
    Calls Try.prog 63 #[.pointer (some ⟨q, 0, Option.none⟩), .int .i64 i] w fun e w' => e = .returned (.int .i64 2) ∧ w = w' := by
  have GN := Lib.hid (gone_no h hc)
  have c3 := h.c3
  clear hc h
  by_cases h0 : i < 0
  · clear hi
    go_enter Try.func63, Try.ntmps63
    go_wp2_with fail
    refine GN.out.mono ?_
    rintro e w1 ⟨rfl, rfl⟩
    go_wp2_with fail
    go_ret
    exact ⟨rfl, rfl⟩
  · have h1 : (S.h : Int) ≤ i := by omega
    clear hi
    go_enter Try.func63, Try.ntmps63
    go_wp2_with fail
    refine GN.out.mono ?_
    rintro e w1 ⟨rfl, rfl⟩
    go_wp2_with fail
    go_ret
    exact ⟨rfl, rfl⟩

theorem sget_ok (h : SkAt w q p S) (a : ArAt w p A R) (hc : S.closed = false) (hb : Good A.b) (ho : S.o + 8 * S.cells ≤ A.n) (i : Nat) (hi : i < S.h) {m : List Nat} (hm : Has S A.b m) :
    Calls Try.prog 44 #[.pointer (some ⟨q, 0, Option.none⟩), .int .i64 i] w fun e w' => e = .returned (.tuple #[.int .u64 ((m.getD i 0 : Nat) : Int), .int .i64 0]) ∧ ∃ n, w' = w.drewN n := by
  have US := Lib.hid (suse_ok h hc i hi)
  have SW := sword_ok h a i (by have := h.hh; omega) ho hb
  rw [hm.word i hi] at SW
  have SW2 := Lib.hid SW
  clear SW h a hc hm
  go_enter Try.func44, Try.ntmps44
  go_wp2_with fail
  refine US.out.mono ?_
  rintro e w1 ⟨rfl, rfl⟩
  go_wp2_with fail
  refine SW2.out.mono ?_
  rintro e w1 ⟨rfl, n, rfl⟩
  go_wp2_with fail
  go_ret2
  exact ⟨rfl, n, rfl⟩

theorem sget_range (h : SkAt w q p S) (hc : S.closed = false) (i : Int) (hi : i < 0 ∨ (S.h : Int) ≤ i) :
    Calls Try.prog 44 #[.pointer (some ⟨q, 0, Option.none⟩), .int .i64 i] w fun e w' => e = .returned (.tuple #[.int .u64 0, .int .i64 2]) ∧ w = w' := by
  have US := Lib.hid (suse_range h hc i hi)
  clear h hc hi
  go_enter Try.func44, Try.ntmps44
  go_wp2_with fail
  refine US.out.mono ?_
  rintro e w1 ⟨rfl, rfl⟩
  go_wp2_with fail
  go_ret2
  exact ⟨rfl, rfl⟩
end Go.Proofs.Ytmjnoboeffajbaa
