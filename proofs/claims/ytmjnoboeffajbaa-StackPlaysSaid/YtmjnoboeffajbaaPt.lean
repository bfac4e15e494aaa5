/- StackPlays: the rounds joined; the loop. -/
import Derived.Test.YtmjnoboeffajbaaPh
import Derived.Test.YtmjnoboeffajbaaPi
import Derived.Test.YtmjnoboeffajbaaPj
import Derived.Test.YtmjnoboeffajbaaPk
import Derived.Test.YtmjnoboeffajbaaPl
import Derived.Test.YtmjnoboeffajbaaPm
import Derived.Test.YtmjnoboeffajbaaPn
import Derived.Test.YtmjnoboeffajbaaPo
import Derived.Test.YtmjnoboeffajbaaPq
import Derived.Test.YtmjnoboeffajbaaPr
namespace Go.Proofs.Ytmjnoboeffajbaa
open Go.RowKit Go.Maps
set_option linter.unusedSimpArgs false
set_option linter.unusedVariables false

set_option maxRecDepth 1000000 in
set_option maxHeartbeats 4000000 in
/-- The loop's end. -/
theorem case_exit {w : World} {n q p : Nat} {A0 : Ar} {R : Rp} {wr : World} {u : Nat → Value} {ms : List Nat} {a a0 : Option Addr} {cap len0 cap0 : Nat} (hl60 : len0 ≤ 60)
    (u1 : u 1 = .int .i64 n) (u2 : u 2 = .slice a0 len0 cap0) (u7 : u 7 = .pointer (some ⟨p, 0, Option.none⟩)) (u9 : u 9 = .pointer (some ⟨q, 0, Option.none⟩)) (u10 : u 10 = .int .i64 0) (u11 : u 11 = .slice a ms.length cap) (u12 : u 12 = .int .i64 len0)
    (P : Plays w n q p A0 R wr ms ms a cap) {K0 : Act → World → Prop} (hexit : ∀ a' w', WI (PRel w n q p A0 R a0 len0 cap0) a' w' → K0 a' w') (J : Act → World → Prop) :
    Code.wp Try.prog body15 (Exit.then J (Exit.inBlock 0 (Exit.then K0 (bodyPost Try.prog Try.f15 (fun e w' => e = .returned (.bool true) ∧ Below w.heap.size w w'))))) (frame15 u) wr := by
  conv => arg 2; whnf
  simp only [frame15, u1, u2, u7, u9, u10, u11, u12]
  clear u1 u2 u7 u9 u10 u11 u12
  go_wp2_with fail
  exact WI.intro rfl ⟨len0, ms, a, cap, rfl, rfl, Nat.le_refl _, P, rfl, rfl, rfl, rfl, rfl⟩

theorem round {w : World} {n q p : Nat} {A0 : Ar} {R : Rp} {wr : World} {u : Nat → Value} {a0 : Option Addr} {len0 cap0 : Nat} (hl60 : len0 ≤ 60) (hn1 : 1 ≤ n) (hn2 : n ≤ 65536) (acts : SActs w a0 len0)
    (hI : PRel w n q p A0 R a0 len0 cap0 u wr) {K0 : Act → World → Prop} (hexit : ∀ a' w', WI (PRel w n q p A0 R a0 len0 cap0) a' w' → K0 a' w') :
    Code.wp Try.prog body15 (Exit.then (fun a' w' => WI (PRel w n q p A0 R a0 len0 cap0) a' w' ∧ Wmu len0 a' w' < Wmu len0 (frame15 u) wr) (Exit.inBlock 0 (Exit.then K0 (bodyPost Try.prog Try.f15 (fun e w' => e = .returned (.bool true) ∧ Below w.heap.size w w'))))) (frame15 u) wr := by
  obtain ⟨j, ms, a, cap, u11, u12, hj, P, u1, u2, u7, u9, u10⟩ := hI
  have hmu : Wmu len0 (frame15 u) wr = len0 - j := by
    have : (frame15 u).tmps.getD 12 undef = u 12 := rfl
    rw [Wmu, this, u12]; simp [intOf]
  rw [hmu]
  rcases Nat.lt_or_ge j len0 with hlt | hge
  · obtain ⟨x, kind, xn, xk, la, ll, lc, zs, rfl, ac⟩ := acts j hlt
    obtain ⟨g, o, rfl, ⟨d0, d1, d2, d3⟩, X⟩ := sact_copy ac (acts.spot (by omega)) P.bel
    have hkr := u8_range ac.w0
    have hzn : ¬ (wr.heap.size = q ∨ wr.heap.size = R.buf) := by
      have := P.ltq
      have := P.ltb
      omega
    have H : Rnd w n q p A0 R wr u j ms a cap g o len0 cap0 kind xn xk la ll lc zs := ⟨u1, u2, u7, u9, u10, u11, u12, hlt, hl60, d0, d1, d2, d3, X, P.fresh (Touch.alloc _ _ _), ac.row, hkr, i64_range ac.w1, i64_range ac.w2, hzn, P.le, hn1, hn2⟩
    by_cases h50 : 50 < ll
    · exact case_long H h50
    have hkind : kind % 6 = 0 ∨ kind % 6 = 1 ∨ kind % 6 = 2 ∨ kind % 6 = 3 ∨ kind % 6 = 4 ∨ kind % 6 = 5 := by omega
    rcases hkind with hk | hk | hk | hk | hk | hk
    · by_cases hdeep : n < ms.length + ll
      · exact case_deep H h50 hk hdeep
      · exact case_push H h50 hk hdeep
    · by_cases h0 : ms.length = 0
      · exact case_popE H h50 hk h0
      · exact case_pop H h50 hk h0
    · by_cases hr : xn < 0 ∨ (ms.length : Int) < xn
      · exact case_takeR H h50 hk hr
      · by_cases ha : a = Option.none
        · exact case_takeNone H h50 hk (by omega) (by omega) ha
        · exact case_take H h50 hk (by omega) (by omega) ha
    · by_cases hr : xn < 0 ∨ (ms.length : Int) ≤ xn
      · exact case_getOut H h50 hk hr
      · exact case_getIn H h50 hk (by omega) (by omega)
    · by_cases hr : xn < 0 ∨ (ms.length : Int) ≤ xn
      · exact case_setOut H h50 hk hr
      · exact case_setIn H h50 hk (by omega) (by omega)
    · by_cases hr : xn < 0 ∨ xk < 0 ∨ (ms.length : Int) < xk ∨ (ms.length : Int) - xk < xn
      · exact case_unwindR H h50 hk hr
      · by_cases ha : a = Option.none
        · exact case_unwindNone H h50 hk (by omega) (by omega) (by omega) (by omega) ha
        · exact case_unwind H h50 hk (by omega) (by omega) (by omega) (by omega) ha
  · obtain rfl : j = len0 := by omega
    exact case_exit hl60 u1 u2 u7 u9 u10 u11 u12 P hexit _

theorem loop15 {w : World} {n q p : Nat} {A0 : Ar} {R : Rp} {wr : World} {a : Act} {a0 : Option Addr} {len0 cap0 : Nat} (hl60 : len0 ≤ 60) (hn1 : 1 ≤ n) (hn2 : n ≤ 65536) (acts : SActs w a0 len0)
    (hI : WI (PRel w n q p A0 R a0 len0 cap0) a wr) {K0 : Act → World → Prop} (hexit : ∀ a' w', WI (PRel w n q p A0 R a0 len0 cap0) a' w' → K0 a' w') :
    Code.wp Try.prog (Code.loop body15) (Exit.inBlock 0 (Exit.then K0 (bodyPost Try.prog Try.f15 (fun e w' => e = .returned (.bool true) ∧ Below w.heap.size w w')))) a wr := by
  refine wp_loop (WI (PRel w n q p A0 R a0 len0 cap0)) (Wmu len0) hI ?_
  rintro a' w' ⟨u, hu, rfl⟩
  exact round hl60 hn1 hn2 acts hu hexit
/-- What closing comes to. -/
def Closed (w : World) (q p : Nat) (e : Ending) (w' : World) : Prop :=
  e = .returned (.int .i64 0) ∧ ∃ S' R' A', SkAt w' q p S' ∧ S'.closed = true ∧ ArAt w' p A' R' ∧ A'.live = 0 ∧ Below w.heap.size w w'
theorem Plays.close {w : World} {n q p : Nat} {A0 : Ar} {R : Rp} {wr : World} {ms mr : List Nat} {a : Option Addr} {cap c : Nat} (h : Plays w n q p A0 R wr ms mr a cap) (hc : c ≤ 4194304) (hA : A0.taken 0 = some (c : Int) ∧ (∀ y, A0.rooms y = []) ∧ A0.live = (c : Int)) :
    Calls Try.prog 50 #[.pointer (some ⟨q, 0, Option.none⟩)] wr (Closed w q p) := by
  obtain ⟨S, b, hc', ho, on⟩ := h.on
  refine (sclose on (c : Int) (by rw [ho]; exact hA.1) (by show (A0.rooms _).length ≤ _; rw [hA.2.1]; simp) (by show _ ≤ A0.live; rw [hA.2.2]; omega) (by show A0.live ≤ _; rw [hA.2.2]; omega)).mono ?_
  rintro e w' ⟨R', rfl, s, a', t⟩
  refine ⟨rfl, _, R', _, s, rfl, a', ?_, h.bel.trans (t.toBelow h.bel.size (fun k hk => hk.elim (fun e => by rw [e]; exact h.hq) (h.F k)))⟩
  show A0.live - (c : Int) = 0
  rw [hA.2.2]; omega
end Go.Proofs.Ytmjnoboeffajbaa
