/- What a stack's pushing does; its height and its room; a new stack. -/
import Derived.Test.YtmjnoboeffajbaaSa
namespace Go.Proofs.Ytmjnoboeffajbaa
open Go.RowKit Go.Maps
set_option linter.unusedSimpArgs false
set_option linter.unusedVariables false

variable {w w' : World} {q p : Nat} {S : Sk} {A : Ar} {R : Rp}

def uvals (l : List Nat) : List Value := l.map fun (n : Nat) => Value.int .u64 (n : Int)

theorem gone_no (h : SkAt w q p S) (hc : S.closed = false) : Calls Try.prog 56 #[.pointer (some ⟨q, 0, Option.none⟩)] w fun e w' => e = .returned (.bool false) ∧ w = w' := by
  have c4 := h.c4
  rw [hc] at c4
  clear hc
  go_enter Try.func56, Try.ntmps56
  go_wp2
  go_ret
  exact ⟨rfl, rfl⟩
theorem gone_yes (h : SkAt w q p S) (hc : S.closed = true) : Calls Try.prog 56 #[.pointer (some ⟨q, 0, Option.none⟩)] w fun e w' => e = .returned (.bool true) ∧ w = w' := by
  have c4 := h.c4
  rw [hc] at c4
  clear hc
  go_enter Try.func56, Try.ntmps56
  go_wp2
  go_ret
  exact ⟨rfl, rfl⟩

theorem sheight_ok (h : SkAt w q p S) (hc : S.closed = false) : Calls Try.prog 43 #[.pointer (some ⟨q, 0, Option.none⟩)] w fun e w' => e = .returned (.int .i64 S.h) ∧ w = w' := by
  have c3 := h.c3
  have GN := Lib.hid (gone_no h hc)
  clear hc
  go_enter Try.func43, Try.ntmps43
  go_wp2_with (go_at_call 56; refine GN.out.mono ?_; rintro e w1 ⟨rfl, rfl⟩)
  go_ret
  exact ⟨rfl, rfl⟩
theorem sheight_gone (h : SkAt w q p S) (hc : S.closed = true) : Calls Try.prog 43 #[.pointer (some ⟨q, 0, Option.none⟩)] w fun e w' => e = .returned (.int .i64 0) ∧ w = w' := by
  have GN := Lib.hid (gone_yes h hc)
  clear hc
  go_enter Try.func43, Try.ntmps43
  go_wp2_with (go_at_call 56; refine GN.out.mono ?_; rintro e w1 ⟨rfl, rfl⟩)
  go_ret
  exact ⟨rfl, rfl⟩

theorem sroom_ok (h : SkAt w q p S) (hc : S.closed = false) : Calls Try.prog 51 #[.pointer (some ⟨q, 0, Option.none⟩)] w fun e w' => e = .returned (.int .i64 ((S.cells : Int) - (S.h : Int))) ∧ ∃ n, w' = w.drewN n := by
  have c2 := h.c2
  have c3 := h.c3
  have GN := Lib.hid (gone_no h hc)
  have h1 := h.hh
  have h2 := h.hc
  have e1 : IntKind.i64.wrap ((S.cells : Int) - (S.h : Int)) = (S.cells : Int) - (S.h : Int) := IntWalk.i64_in _ (by omega)
  clear hc
  go_enter Try.func51, Try.ntmps51
  go_wp2_with (go_at_call 56; refine GN.out.mono ?_; rintro e w1 ⟨rfl, rfl⟩)
  go_quiet (fail)
  go_wp2
  go_ret
  exact ⟨rfl, nq, rfl⟩

/-- The words that a slice of the caller's leads to, in any world that leaves its block. -/
def Src (w : World) (a : Option Addr) (l : List Nat) (F : Nat → Prop) : Prop :=
  ∀ j, j < l.length → ∃ g off, a = some ⟨g, off, Option.none⟩ ∧ w.cell? ⟨g, off + j, Option.none⟩ = some (.int .u64 ((l.getD j 0 : Nat) : Int)) ∧ l.getD j 0 < 18446744073709551616 ∧ ¬ F g

theorem Src.kept {a : Option Addr} {l : List Nat} {F : Nat → Prop} (h : Src w a l F) (t : Touch F w w') : Src w' a l F := by
  intro j hj
  obtain ⟨g, off, rfl, hc, hlt, hF⟩ := h j hj
  exact ⟨g, off, rfl, t.cell hc hF, hlt, hF⟩

/-- What a stack's bytes are when some words have been pushed. -/
structure Pushed (S : Sk) (b b' : List Int) (l : List Nat) : Prop where
  good : Good b'
  len : b'.length = b.length
  new : ∀ i, i < l.length → rd 8 b' (S.o + 8 * (S.h + i)) = l.getD i 0
  old : ∀ n y, y + n ≤ S.o + 8 * S.h ∨ S.o + 8 * (S.h + l.length) ≤ y → rd n b' y = rd n b y

theorem Pushed.nil {b : List Int} (h : Good b) : Pushed S b b [] := ⟨h, rfl, fun i hi => by simp at hi, fun _ _ _ => rfl⟩

theorem Pushed.next {b b' : List Int} {l : List Nat} {k : Nat} (h : Pushed S b b' (l.take k)) (hk : k < l.length) (hv : l.getD k 0 < 18446744073709551616) (hb : S.o + 8 * (S.h + k) + 8 ≤ b.length) :
    Pushed S b (over b' (S.o + 8 * (S.h + k)) (leBytes 8 (l.getD k 0))) (l.take (k + 1)) where
  good := good_over h.good (good_le _ _)
  len := by rw [length_over (by rw [leBytes_length, h.len]; omega), h.len]
  new := by
    intro i hi
    have hlen : (l.take (k + 1)).length = k + 1 := by simp; omega
    rw [hlen] at hi
    have hg : (l.take (k + 1)).getD i 0 = l.getD i 0 := by
      simp [List.getD_eq_getElem?_getD, List.getElem?_take, hi]
    rw [hg]
    by_cases he : i = k
    · subst he
      exact rd_over_same (by rw [h.len]; omega) hv
    · rw [rd_over_ne (by rw [leBytes_length, h.len]; omega) (.inl (by omega))]
      have h2 := h.new i (by simp; omega)
      rw [h2]
      have h3 : i < k := by omega
      simp [List.getD_eq_getElem?_getD, List.getElem?_take, h3]
  old := by
    intro n y hy
    have hlen : (l.take (k + 1)).length = k + 1 := by simp; omega
    have hlen2 : (l.take k).length = k := by simp; omega
    rw [hlen] at hy
    rw [rd_over_ne (by rw [leBytes_length, h.len]; omega) (by rw [leBytes_length]; omega)]
    exact h.old n y (by rw [hlen2]; omega)

def PushPost (q p : Nat) (S : Sk) (A : Ar) (R : Rp) (l : List Nat) (w : World) (e : Ending) (w' : World) : Prop :=
  ∃ b', e = .returned (.int .i64 0) ∧ SkAt w' q p { S with h := S.h + l.length } ∧ ArAt w' p { A with b := b' } R ∧ Pushed S A.b b' l ∧ Touch (fun k => k = q ∨ k = R.buf) w w'

set_option maxHeartbeats 1000000 in
theorem push_ok (h : SkAt w q p S) (a : ArAt w p A R) (hc : S.closed = false) (hb : Good A.b) (ho : S.o + 8 * S.cells ≤ A.n) (l : List Nat) (hl : S.h + l.length ≤ S.cells) (x : Option Addr) (c : Nat)
    (hs : Src w x l (fun k => k = q ∨ k = R.buf)) :
    Calls Try.prog 32 #[.pointer (some ⟨q, 0, Option.none⟩), .slice x l.length c] w (PushPost q p S A R l w) := by
  have GN := Lib.hid (gone_no h hc)
  have RM := Lib.hid (sroom_ok h hc)
  have HC := Lib.hid hc
  have h2 := h.hc
  have hS := Lib.hid hs
  have HBL := Lib.hid a.hbl
  clear hc hs
  have hbnd := h.hh
  go_enter Try.func32, Try.ntmps32
  go_wp2_with fail
  refine GN.out.mono ?_
  rintro e w1 ⟨rfl, rfl⟩
  go_wp2_with fail
  refine RM.out.mono ?_
  rintro e w1 ⟨rfl, nq, rfl⟩
  have s1 := h.drewN nq
  have a1 := a.drewN nq
  have t1 : Touch (fun k => k = q ∨ k = R.buf) w (w.drewN nq) := Touch.drewN _ _ _
  have x1 := Lib.hid (hS.out.kept t1)
  generalize w.drewN nq = w1 at *
  clear h a GN RM hS
  go_wp2_with fail
  go_loopw [18] (fun i wr => ∃ (k : Nat) (b' : List Int), i = .int .i64 k ∧ k ≤ l.length ∧ SkAt wr q p { S with h := S.h + k } ∧ ArAt wr p { A with b := b' } R ∧ Pushed S A.b b' (l.take k) ∧ Touch (fun k => k = q ∨ k = R.buf) w1 wr) (fun i _ => l.length - (intOf i).toNat)
  case atStart => exact ⟨0, A.b, rfl, Nat.zero_le _, s1, a1, by simpa using Pushed.nil hb, Touch.refl _ _⟩
  case round =>
    clear s1 a1
    obtain ⟨k, b', rfl, hk, s, a, hp, t⟩ := hrel
    by_cases hlt : k < l.length
    · obtain ⟨g, off, rfl, hcell, hv, hF⟩ := (x1.out.kept t) k hlt
      have hp2 := hp.next hlt hv (by rw [HBL.out]; omega)
      generalize l.getD k 0 = v at *
      have c3 := s.c3
      have c0 : wr.cell? ⟨q, 3, Option.none⟩ = some (.int .i64 ((S.h : Int) + (k : Int))) := c3
      have PT := Lib.hid (sput_ok s a (S.h + k) v (by show _ < S.cells; omega) (by exact ho) hv)
      rw [show ((S.h + k : Nat) : Int) = (S.h : Int) + (k : Int) by omega] at PT
      have HP := Lib.hid hp2
      have hqb : ¬ q = R.buf := fun e => s.off a (.inr (.inl e))
      have S0 := Lib.hid s
      clear hp c3 s a hp2
      go_wp2_with fail
      refine PT.out.mono ?_
      rintro e w2 ⟨rfl, a2, t2⟩
      have s2 := S0.out.kept t2 hqb
      have d3 := s2.c3
      have d0 : w2.cell? ⟨q, 3, Option.none⟩ = some (.int .i64 ((S.h : Int) + (k : Int))) := d3
      have f3 := s2.fz 3
      have s3 : SkAt (w2.setCell ⟨q, 3, Option.none⟩ (.int .i64 ((S.h : Int) + (k : Int) + 1))) q p { S with h := S.h + (k + 1) } :=
        s2.stored 3 _ (by simp [Sk.row]; omega) (by show S.h + (k + 1) ≤ S.cells; omega) s2.hc s2.ho
      have t3 : Touch (· = q) w2 (w2.setCell ⟨q, 3, Option.none⟩ (.int .i64 ((S.h : Int) + (k : Int) + 1))) := Touch.cell1 w2 q 3 _
      have a3 := a2.kept t3 (fun j hj e => by rw [e] at hj; exact s2.off a2 hj)
      have t4 : Touch (fun k => k = q ∨ k = R.buf) w1 (w2.setCell ⟨q, 3, Option.none⟩ (.int .i64 ((S.h : Int) + (k : Int) + 1))) := t.trans ((t2.trans' t3 (fun _ _ e => .inr e) (fun _ _ e => .inl e)))
      have FIN := Lib.hid (And.intro s3 (And.intro a3 t4))
      clear s3 t3 a3 t4 a2 s2 t2 d3 S0 c0 t
      go_wp2_with fail
      exact ⟨⟨k + 1, _, by go_num, by omega, FIN.out.1, FIN.out.2.1, HP.out, FIN.out.2.2⟩, by simp [intOf]; omega⟩
    · obtain rfl : k = l.length := by omega
      rw [List.take_of_length_le (Nat.le_refl _)] at hp
      have HT := Lib.hid (t1.trans t)
      go_wp2_with fail
      go_ret
      exact ⟨b', rfl, s, a, hp, HT.out⟩
end Go.Proofs.Ytmjnoboeffajbaa
