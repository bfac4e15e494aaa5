/- Setting a cell of a stack; pushing too much; unwinding out of range; closing; what a closed stack answers; the room that is left. -/
import Derived.Test.YtmjnoboeffajbaaSk
namespace Go.Proofs.Ytmjnoboeffajbaa
open Go.RowKit Go.Maps
set_option linter.unusedSimpArgs false
set_option linter.unusedVariables false

variable {w w' : World} {q p : Nat} {S : Sk} {A : Ar} {R : Rp} {m : List Nat}

set_option maxHeartbeats 400000 in
theorem sset (h : SOn w q p S A R m) (i v : Nat) (hi : i < m.length) (hv : v < 18446744073709551616) :
    Calls Try.prog 49 #[.pointer (some ⟨q, 0, Option.none⟩), .int .i64 i, .int .u64 v] w (SChg q p S A R (m.set i v) (.int .i64 0) w) := by
  have hh := h.has.len
  have h3 := h.sk.hh
  have hr := h.room
  have hbl := h.ar.hbl
  have US := Lib.hid (suse_ok h.sk h.cl i (by omega))
  have PT := Lib.hid (sput_ok h.sk h.ar i v (by omega) h.room hv)
  have hqb : ¬ q = R.buf := fun e => h.sk.off h.ar (.inr (.inl e))
  have FIN : Hid (∀ w2, ArAt w2 p { A with b := over A.b (S.o + 8 * i) (leBytes 8 v) } R → Touch (· = R.buf) w w2 → SChg q p S A R (m.set i v) (.int .i64 0) w (.returned (.int .i64 0)) w2) := Lib.hid (fun w2 a2 t2 => by
    refine ⟨S, over A.b (S.o + 8 * i) (leBytes 8 v), rfl, rfl, rfl, ⟨h.sk.kept t2 hqb, a2, h.cl, good_over h.good (good_le 8 v), h.room, ⟨by simp [hh], ?_⟩⟩, ?_, ?_, t2.mono (fun _ _ e => .inr e)⟩
    · intro j hj
      by_cases hji : j = i
      · subst hji
        rw [rd_over_same (by omega) (by simpa using hv)]
        simp [List.getD_eq_getElem?_getD, List.getElem?_set, show j < m.length by omega]
      · rw [rd_over_ne (by rw [leBytes_length]; omega) (by rw [leBytes_length]; omega), h.has.word j hj]
        simp [List.getD_eq_getElem?_getD, List.getElem?_set, show ¬ i = j from fun e => hji e.symm]
    · intro n y hy
      exact rd_over_ne (by rw [leBytes_length]; omega) (by rw [leBytes_length]; omega)
    · exact length_over (by rw [leBytes_length]; omega))
  clear h
  go_enter Try.func49, Try.ntmps49
  go_wp2_with fail
  refine US.out.mono ?_
  rintro e w1 ⟨rfl, rfl⟩
  go_wp2_with fail
  refine PT.out.mono ?_
  rintro e w2 ⟨rfl, a2, t2⟩
  go_wp2_with fail
  go_ret
  exact FIN.out _ a2 t2
theorem sset_range (h : SOn w q p S A R m) (i v : Int) (hi : i < 0 ∨ (m.length : Int) ≤ i) :
    Calls Try.prog 49 #[.pointer (some ⟨q, 0, Option.none⟩), .int .i64 i, .int .u64 v] w fun e w' => e = .returned (.int .i64 2) ∧ w = w' := by
  have US := Lib.hid (suse_range h.sk h.cl i (by rw [← h.has.len]; exact hi))
  clear h hi
  go_enter Try.func49, Try.ntmps49
  go_wp2_with fail
  refine US.out.mono ?_
  rintro e w1 ⟨rfl, rfl⟩
  go_wp2_with fail
  go_ret
  exact ⟨rfl, rfl⟩
theorem spush_deep (h : SOn w q p S A R m) (n : Nat) (hl : S.cells < m.length + n) (x : Option Addr) (c : Nat) :
    Calls Try.prog 32 #[.pointer (some ⟨q, 0, Option.none⟩), .slice x n c] w fun e w' => e = .returned (.int .i64 11) ∧ ∃ n, w' = w.drewN n := by
  have GN := Lib.hid (gone_no h.sk h.cl)
  have RM := Lib.hid (sroom_ok h.sk h.cl)
  have hh := h.has.len
  have h3 := h.sk.hh
  rw [hh] at hl
  clear h hh
  go_enter Try.func32, Try.ntmps32
  go_wp2_with fail
  refine GN.out.mono ?_
  rintro e w1 ⟨rfl, rfl⟩
  go_wp2_with fail
  refine RM.out.mono ?_
  rintro e w1 ⟨rfl, nq, rfl⟩
  go_wp2_with fail
  go_ret
  exact ⟨rfl, nq, rfl⟩
theorem sunwind_range (h : SOn w q p S A R m) (keep height : Int) (hr : keep < 0 ∨ height < 0 ∨ (m.length : Int) < height ∨ (m.length : Int) - height < keep) (k0 : -9223372036854775808 ≤ height) :
    Calls Try.prog 42 #[.pointer (some ⟨q, 0, Option.none⟩), .int .i64 keep, .int .i64 height] w fun e w' => e = .returned (.int .i64 2) ∧ w = w' := by
  have GN := Lib.hid (gone_no h.sk h.cl)
  have c3 := h.sk.c3
  have hh := h.has.len
  have h3 := h.sk.hh
  have h4 := h.sk.hc
  rw [hh] at hr
  clear h hh
  by_cases h1 : keep < 0
  · clear hr
    go_enter Try.func42, Try.ntmps42
    go_wp2_with fail
    refine GN.out.mono ?_
    rintro e w1 ⟨rfl, rfl⟩
    go_wp2_with fail
    go_ret
    exact ⟨rfl, rfl⟩
  by_cases h2 : height < 0
  · clear hr
    go_enter Try.func42, Try.ntmps42
    go_wp2_with fail
    refine GN.out.mono ?_
    rintro e w1 ⟨rfl, rfl⟩
    go_wp2_with fail
    go_ret
    exact ⟨rfl, rfl⟩
  by_cases h5 : (S.h : Int) < height
  · clear hr
    go_enter Try.func42, Try.ntmps42
    go_wp2_with fail
    refine GN.out.mono ?_
    rintro e w1 ⟨rfl, rfl⟩
    go_wp2_with fail
    go_ret
    exact ⟨rfl, rfl⟩
  have h6 : (S.h : Int) - height < keep := by omega
  have e1 : IntKind.i64.wrap ((S.h : Int) - height) = (S.h : Int) - height := IntWalk.i64_in _ (by omega)
  clear hr
  go_enter Try.func42, Try.ntmps42
  go_wp2_with fail
  refine GN.out.mono ?_
  rintro e w1 ⟨rfl, rfl⟩
  go_wp2_with fail
  go_ret
  exact ⟨rfl, rfl⟩
theorem sroom (h : SOn w q p S A R m) : Calls Try.prog 51 #[.pointer (some ⟨q, 0, Option.none⟩)] w fun e w' => e = .returned (.int .i64 ((S.cells : Int) - (m.length : Int))) ∧ ∃ n, w' = w.drewN n := by
  have := sroom_ok h.sk h.cl
  rwa [← h.has.len] at this

/-- Closing: the arena has its room back. -/
def ClosePost (q p : Nat) (S : Sk) (A : Ar) (R : Rp) (c : Int) (w : World) (e : Ending) (w' : World) : Prop :=
  ∃ R', e = .returned (.int .i64 0) ∧ SkAt w' q p { S with closed := true } ∧ ArAt w' p (A.gave S.o c) R' ∧ Touch (fun k => k = q ∨ fp R p k) w w'
theorem sclose (h : SOn w q p S A R m) (c : Int) (hx : A.taken S.o = some c) (hlen : (A.rooms c).length ≤ 1000000) (hl1 : -1099511627776 ≤ A.live) (hl2 : A.live ≤ 1099511627776) :
    Calls Try.prog 50 #[.pointer (some ⟨q, 0, Option.none⟩)] w (ClosePost q p S A R c w) := by
  have GN := Lib.hid (gone_no h.sk h.cl)
  have c0 := h.sk.c0
  have c1 := h.sk.c1
  have f4 := h.sk.fz 4
  have c4 := h.sk.c4
  rw [h.cl] at c4
  have t1 : Touch (· = q) w (w.setCell ⟨q, 4, Option.none⟩ (.bool true)) := Touch.cell1 w q 4 _
  have s1 : SkAt (w.setCell ⟨q, 4, Option.none⟩ (.bool true)) q p { S with closed := true } := h.sk.stored 4 _ (by simp [Sk.row]) h.sk.hh h.sk.hc h.sk.ho
  have a1 : ArAt (w.setCell ⟨q, 4, Option.none⟩ (.bool true)) p A R := h.ar.kept t1 (fun j hj e => by rw [e] at hj; exact h.sk.off h.ar hj)
  have d0 := s1.c0
  have d1 : (w.setCell ⟨q, 4, Option.none⟩ (.bool true)).cell? ⟨q, 1, Option.none⟩ = some (.int .i64 S.o) := s1.c1
  have GV := Lib.hid (give_ok a1.drew S.o c hx hlen hl1 hl2)
  have off := Lib.hid (h.sk.off h.ar)
  have S1 := Lib.hid s1
  have T1 := Lib.hid t1
  have ltq := h.sk.ltq
  have FIN : Hid (∀ w2 R', ArAt w2 p (A.gave S.o c) R' → Step (w.setCell ⟨q, 4, Option.none⟩ (.bool true)).drew w2 p R R' → ClosePost q p S A R c w (.returned (.int .i64 0)) w2) := Lib.hid (by
    intro w2 R' a2 st
    refine ⟨R', rfl, (s1.kept (Touch.drew (fun _ => False) _) (fun h => h)).kept st.touch off.out, a2, ?_⟩
    exact (t1.trans' (Touch.drew (fun _ => False) _) (H := fun k => k = q ∨ fp R p k) (fun _ _ h => .inl h) (fun _ _ h => h.elim)).trans' st.touch (fun _ _ h => h) (fun _ _ h => .inr h))
  clear h s1 t1 a1
  go_enter Try.func50, Try.ntmps50
  go_wp2_with fail
  refine GN.out.mono ?_
  rintro e w1 ⟨rfl, rfl⟩
  go_wp2_with fail
  go_region_with (go_at_call 21; (with_reducible refine GV.out.mono ?_); rintro e w2 ⟨R', rfl, a2, st⟩)
  all_goals
    go_wp2_with fail
    go_ret
    exact FIN.out _ _ a2 st
theorem sclose_gone (h : SkAt w q p S) (hc : S.closed = true) : Calls Try.prog 50 #[.pointer (some ⟨q, 0, Option.none⟩)] w fun e w' => e = .returned (.int .i64 12) ∧ w = w' := by
  have GN := Lib.hid (gone_yes h hc)
  clear h hc
  go_enter Try.func50, Try.ntmps50
  go_wp2_with fail
  refine GN.out.mono ?_
  rintro e w1 ⟨rfl, rfl⟩
  go_wp2_with fail
  go_ret
  exact ⟨rfl, rfl⟩
theorem spush_gone (h : SkAt w q p S) (hc : S.closed = true) (x : Option Addr) (n c : Nat) : Calls Try.prog 32 #[.pointer (some ⟨q, 0, Option.none⟩), .slice x n c] w fun e w' => e = .returned (.int .i64 12) ∧ w = w' := by
  have GN := Lib.hid (gone_yes h hc)
  clear h hc
  go_enter Try.func32, Try.ntmps32
  go_wp2_with fail
  refine GN.out.mono ?_
  rintro e w1 ⟨rfl, rfl⟩
  go_wp2_with fail
  go_ret
  exact ⟨rfl, rfl⟩
end Go.Proofs.Ytmjnoboeffajbaa
