/- FramePlays: the rounds joined; the loop; the actions that came in. -/
import Derived.Test.YtmjnoboeffajbaaQe
import Derived.Test.YtmjnoboeffajbaaQf
import Derived.Test.YtmjnoboeffajbaaQg
import Derived.Test.YtmjnoboeffajbaaQh
import Derived.Test.YtmjnoboeffajbaaQi
import Derived.Test.YtmjnoboeffajbaaQj
import Derived.Test.YtmjnoboeffajbaaQk
import Derived.Test.YtmjnoboeffajbaaQl
namespace Go.Proofs.Ytmjnoboeffajbaa
open Go.RowKit Go.Maps
set_option linter.unusedSimpArgs false
set_option linter.unusedVariables false

set_option maxRecDepth 1000000 in
set_option maxHeartbeats 4000000 in
theorem fcase_exit {w : World} {n q p : Nat} {A0 : Ar} {R : Rp} {wr : World} {u : Nat → Value} {ms : List Fm} {a a0 : Option Addr} {cap len0 cap0 : Nat} (hl : len0 ≤ 80)
    (u1 : u 1 = .int .i64 n) (u2 : u 2 = .slice a0 len0 cap0) (u7 : u 7 = .pointer (some ⟨p, 0, Option.none⟩)) (u9 : u 9 = .pointer (some ⟨q, 0, Option.none⟩)) (u10 : u 10 = .int .i64 0) (u11 : u 11 = .slice a ms.length cap) (u12 : u 12 = .int .i64 len0)
    (P : FPlays w n q p A0 R wr ms ms a cap) {K0 : Act → World → Prop} (hexit : ∀ a' w', WF (FRel w n q p A0 R a0 len0 cap0) a' w' → K0 a' w') (J : Act → World → Prop) :
    Code.wp Try.prog body13 (Exit.then J (Exit.inBlock 0 (Exit.then K0 (bodyPost Try.prog Try.f13 (fun e w' => e = .returned (.bool true) ∧ Below w.heap.size w w'))))) (frame13 u) wr := by
  conv => arg 2; whnf
  simp only [frame13, u1, u2, u7, u9, u10, u11, u12]
  clear u1 u2 u7 u9 u10 u11 u12
  go_wp2_with fail
  exact WF.intro rfl ⟨len0, ms, a, cap, rfl, rfl, Nat.le_refl _, P, rfl, rfl, rfl, rfl, rfl⟩

theorem last_of {ms : List Fm} (h : ¬ ms.length = 0) : ∃ m' x, ms = m' ++ [x] := by
  rcases List.eq_nil_or_concat ms with rfl | ⟨m', x, rfl⟩
  · simp at h
  · exact ⟨m', x, by simp⟩
theorem fround {w : World} {n q p : Nat} {A0 : Ar} {R : Rp} {wr : World} {u : Nat → Value} {a0 : Option Addr} {len0 cap0 : Nat} (hl : len0 ≤ 80) (hn1 : 1 ≤ n) (hn2 : n ≤ 10000) (acts : FActs w a0 len0)
    (hI : FRel w n q p A0 R a0 len0 cap0 u wr) {K0 : Act → World → Prop} (hexit : ∀ a' w', WF (FRel w n q p A0 R a0 len0 cap0) a' w' → K0 a' w') :
    Code.wp Try.prog body13 (Exit.then (fun a' w' => WF (FRel w n q p A0 R a0 len0 cap0) a' w' ∧ Fmu len0 a' w' < Fmu len0 (frame13 u) wr) (Exit.inBlock 0 (Exit.then K0 (bodyPost Try.prog Try.f13 (fun e w' => e = .returned (.bool true) ∧ Below w.heap.size w w'))))) (frame13 u) wr := by
  obtain ⟨j, ms, a, cap, u11, u12, hj, P, u1, u2, u7, u9, u10⟩ := hI
  have hmu : Fmu len0 (frame13 u) wr = len0 - j := by
    have : (frame13 u).tmps.getD 12 undef = u 12 := rfl
    rw [Fmu, this, u12]; simp [intOf]
  rw [hmu]
  rcases Nat.lt_or_ge j len0 with hlt | hge
  · obtain ⟨x, kind, f, l, b, rfl, ac⟩ := acts j hlt
    obtain ⟨g, o, rfl, hg, d0, d1, d2, d3⟩ := fact_at ac (acts.spot (by omega)) P.bel
    have hkr := u8_range ac.w0
    have H : Fnd w n q p A0 R wr u j ms a cap g o len0 cap0 kind f l b := ⟨u1, u2, u7, u9, u10, u11, u12, hlt, hl, hg, d0, d1, d2, d3, P, hkr, i64_range ac.w1, hn1, hn2⟩
    have hkind : kind % 6 = 0 ∨ kind % 6 = 1 ∨ kind % 6 = 2 ∨ kind % 6 = 3 ∨ kind % 6 = 4 ∨ kind % 6 = 5 := by omega
    rcases hkind with hk | hk | hk | hk | hk | hk
    · cases h0 : smallN f with
      | false => exact fcase_bad0 H hk (by simp [okI, h0]) h0
      | true =>
        cases h1 : smallN l with
        | false => exact fcase_bad1 H hk (by simp [okI, h1]) h0 h1
        | true =>
          cases h2 : smallN b with
          | false => exact fcase_bad2 H hk (by simp [okI, h2]) h0 h1 h2
          | true =>
            by_cases hf : ms.length = n
            · exact fcase_full H hk ⟨h0, h1, h2⟩ hf
            · exact fcase_push H hk ⟨h0, h1, h2⟩ hf
    · by_cases h0 : ms.length = 0
      · exact fcase_popE H hk h0
      · obtain ⟨m', x, hm⟩ := last_of h0
        exact fcase_pop H hk hm
    · by_cases h0 : ms.length = 0
      · exact fcase_topE H hk h0
      · obtain ⟨m', x, hm⟩ := last_of h0
        exact fcase_top H hk hm
    · by_cases h0 : ms.length = 0
      · exact fcase_goE H hk h0
      · obtain ⟨m', x, hm⟩ := last_of h0
        cases h1 : smallN l with
        | false => exact fcase_goBad H hk hm h1
        | true => exact fcase_go H hk hm h1
    · by_cases hr : f < 0 ∨ (ms.length : Int) ≤ f
      · exact fcase_atR H hk hr
      · exact fcase_at H hk (by omega) (by omega)
    · exact fcase_clear H hk
  · obtain rfl : j = len0 := by omega
    exact fcase_exit hl u1 u2 u7 u9 u10 u11 u12 P hexit _

theorem loop13 {w : World} {n q p : Nat} {A0 : Ar} {R : Rp} {wr : World} {a : Act} {a0 : Option Addr} {len0 cap0 : Nat} (hl : len0 ≤ 80) (hn1 : 1 ≤ n) (hn2 : n ≤ 10000) (acts : FActs w a0 len0)
    (hI : WF (FRel w n q p A0 R a0 len0 cap0) a wr) {K0 : Act → World → Prop} (hexit : ∀ a' w', WF (FRel w n q p A0 R a0 len0 cap0) a' w' → K0 a' w') :
    Code.wp Try.prog (Code.loop body13) (Exit.inBlock 0 (Exit.then K0 (bodyPost Try.prog Try.f13 (fun e w' => e = .returned (.bool true) ∧ Below w.heap.size w w')))) a wr := by
  refine wp_loop (WF (FRel w n q p A0 R a0 len0 cap0)) (Fmu len0) hI ?_
  rintro a' w' ⟨u, hu, rfl⟩
  exact fround hl hn1 hn2 acts hu hexit

theorem facts_open {H : Type} {enc : TypeId × Value → H} {W : World} {base : Nat} {held : Bool} {fuel : Nat} {a : Option Addr} {len cap : Nat} {y : DataW H × List MemPlace}
    (h : DataW.trod enc Try.prog W base (fun _ => true) held fuel 80 [.slice a len cap] = some y) : FActs W a len := by
  rcases Go.Deep.open_slice Try.underlying80 h with ⟨hcs, _⟩ | ⟨x, l, c, m, n, D, Pl, hcs, hb, hl, hm, hmm, _, hi⟩
  · simp only [List.cons.injEq, Value.slice.injEq, and_true] at hcs
    obtain ⟨rfl, rfl, rfl⟩ := hcs
    intro i hi; omega
  · simp only [List.cons.injEq, Value.slice.injEq, and_true] at hcs
    obtain ⟨rfl, rfl, rfl⟩ := hcs
    intro i hlt
    obtain ⟨cs', hc, ht⟩ := hi i (by rw [hmm]; simp; omega)
    rw [show Try.prog.cellsOf 83 = 4 by kernel_rfl] at hc
    obtain ⟨_, hcl, hat⟩ := World.cells?_some hc
    obtain ⟨kind, e0, w0⟩ := field_int Try.underlying83 ht 0 _ rfl Try.underlying5 (by kernel_rfl)
    obtain ⟨n1, y1, h1⟩ := field_read Try.underlying83 ht 1 _ rfl
    have h1 : DataW.trod enc Try.prog W base (fun _ => true) held n1 69 ((cs'.drop 1).take 3) = some y1 := by
      have e : Try.prog.cellsOf 69 = 3 := by kernel_rfl
      rw [← e]; exact h1
    obtain ⟨f, e1, w1⟩ := field_int Try.underlying69 h1 0 _ rfl Try.underlying3 (by kernel_rfl)
    obtain ⟨l', e2, w2⟩ := field_int Try.underlying69 h1 1 _ rfl Try.underlying3 (by kernel_rfl)
    obtain ⟨b, e3, w3⟩ := field_int Try.underlying69 h1 2 _ rfl Try.underlying3 (by kernel_rfl)
    have hadd : ∀ j, j < 4 → W.cell? (x.add (i * 4 + j)) = cs'[j]? := fun j hj => by
      rw [← Go.Deep.add_add]; exact hat j hj
    have e1 : cs'[1]? = some (.int .i64 f) := by have : ((cs'.drop 1).take 3)[0]? = some (.int .i64 f) := e1; simpa [List.getElem?_take, List.getElem?_drop] using this
    have e2 : cs'[2]? = some (.int .i64 l') := by have : ((cs'.drop 1).take 3)[1]? = some (.int .i64 l') := e2; simpa [List.getElem?_take, List.getElem?_drop] using this
    have e3 : cs'[3]? = some (.int .i64 b) := by have : ((cs'.drop 1).take 3)[2]? = some (.int .i64 b) := e3; simpa [List.getElem?_take, List.getElem?_drop] using this
    exact ⟨x, kind, f, l', b, rfl, ⟨(hadd 0 (by decide)).trans e0, (hadd 1 (by decide)).trans e1, (hadd 2 (by decide)).trans e2, (hadd 3 (by decide)).trans e3, w0, w1, w2, w3⟩⟩
end Go.Proofs.Ytmjnoboeffajbaa
