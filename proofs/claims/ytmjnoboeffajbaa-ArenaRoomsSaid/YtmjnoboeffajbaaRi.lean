/- ArenaRooms: the rounds joined; the loop; the actions that came in. -/
import Derived.Test.YtmjnoboeffajbaaRd
import Derived.Test.YtmjnoboeffajbaaRe
import Derived.Test.YtmjnoboeffajbaaRf
import Derived.Test.YtmjnoboeffajbaaRg
import Derived.Test.YtmjnoboeffajbaaRh
namespace Go.Proofs.Ytmjnoboeffajbaa
open Go.RowKit Go.Maps
set_option linter.unusedSimpArgs false
set_option linter.unusedVariables false

set_option maxRecDepth 1000000 in
set_option maxHeartbeats 4000000 in
theorem rcase_exit {w : World} {n p : Nat} {A : Ar} {R : Rp} {wr : World} {u : Nat → Value} {l : List Rm} {a a0 : Option Addr} {cap len0 cap0 : Nat} (hl : len0 ≤ 60)
    (u0 : u 0 = .int .i64 n) (u1 : u 1 = .slice a0 len0 cap0) (u5 : u 5 = .pointer (some ⟨p, 0, Option.none⟩)) (u7 : u 7 = .slice a l.length cap) (u8 : u 8 = .int .i64 A.height) (u9 : u 9 = .int .i64 A.live) (u10 : u 10 = .int .i64 len0)
    (P : RPlays w n p wr A R l l a cap len0) {K0 : Act → World → Prop} (hexit : ∀ a' w', WR (RRel w n p a0 len0 cap0) a' w' → K0 a' w') (J : Act → World → Prop) :
    Code.wp Try.prog body4 (Exit.then J (Exit.inBlock 0 (Exit.then K0 (bodyPost Try.prog Try.f4 (fun e w' => e = .returned (.bool true) ∧ Below w.heap.size w w'))))) (frame4 u) wr := by
  conv => arg 2; whnf
  simp only [frame4, u0, u1, u5, u7, u8, u9, u10]
  clear u0 u1 u5 u7 u8 u9 u10
  go_wp2_with fail
  exact WR.intro rfl ⟨len0, A, R, l, a, cap, rfl, rfl, rfl, rfl, Nat.le_refl _, P, rfl, rfl, rfl⟩

theorem rround {w : World} {n p : Nat} {wr : World} {u : Nat → Value} {a0 : Option Addr} {len0 cap0 : Nat} (hl : len0 ≤ 60) (hn2 : n ≤ 4194304) (acts : RActs w a0 len0)
    (hI : RRel w n p a0 len0 cap0 u wr) {K0 : Act → World → Prop} (hexit : ∀ a' w', WR (RRel w n p a0 len0 cap0) a' w' → K0 a' w') :
    Code.wp Try.prog body4 (Exit.then (fun a' w' => WR (RRel w n p a0 len0 cap0) a' w' ∧ Rmu len0 a' w' < Rmu len0 (frame4 u) wr) (Exit.inBlock 0 (Exit.then K0 (bodyPost Try.prog Try.f4 (fun e w' => e = .returned (.bool true) ∧ Below w.heap.size w w'))))) (frame4 u) wr := by
  obtain ⟨j, A, R, l, a, cap, u7, u8, u9, u10, hj, P, u0, u1, u5⟩ := hI
  have hmu : Rmu len0 (frame4 u) wr = len0 - j := by
    have : (frame4 u).tmps.getD 10 undef = u 10 := rfl
    rw [Rmu, this, u10]; simp [intOf]
  rw [hmu]
  rcases Nat.lt_or_ge j len0 with hlt | hge
  · obtain ⟨y, gv, x, rfl, ac⟩ := acts j hlt
    obtain ⟨g, o, rfl, d0, d1⟩ := ract_at ac (acts.spot (by omega)) P.bel
    have H : Rrd w n p A R wr u j l a cap g o len0 cap0 gv x := ⟨u0, u1, u5, u7, u8, u9, u10, hlt, hl, d0, d1, P, i64_range ac.w1, hn2⟩
    cases hgv : gv with
    | true =>
      subst hgv
      rcases Int.lt_or_le (lastK (takenAt x) l l.length) 0 with hk | hk
      · exact rcase_gNone H rfl hk
      · obtain ⟨k, r, hK, _, hkr, hp, _⟩ := lastK_some hk
        have hp' : r.tk = true ∧ (r.pos : Int) = x := by simpa [takenAt] using hp
        exact rcase_gFound H rfl hK hkr hp'.1 hp'.2
    | false =>
      subst hgv
      by_cases hx : x < 0 ∨ 4194304 < x
      · exact rcase_tArg H rfl hx
      · have h0 : 0 ≤ x := by omega
        have h1 : x ≤ 4194304 := by omega
        rcases Int.lt_or_le (lastK (freeOf (cls x : Nat)) l l.length) 0 with hk | hk
        · by_cases hp : A.height + cls x ≤ n
          · exact rcase_tFresh H rfl h0 h1 rfl hk hp
          · exact rcase_tFull H rfl h0 h1 rfl hk (by omega)
        · obtain ⟨k, r, hK, _, hkr, hp, hlast⟩ := lastK_some hk
          refine rcase_tAgain H rfl h0 h1 rfl hK hkr hp (fun s hs => ?_)
          obtain ⟨i, hi1, hi2, hi3⟩ := mem_drop hs
          exact hlast i s hi1 hi2 hi3
  · obtain rfl : j = len0 := by omega
    exact rcase_exit hl u0 u1 u5 u7 u8 u9 u10 P hexit _

theorem loop4 {w : World} {n p : Nat} {wr : World} {a : Act} {a0 : Option Addr} {len0 cap0 : Nat} (hl : len0 ≤ 60) (hn2 : n ≤ 4194304) (acts : RActs w a0 len0)
    (hI : WR (RRel w n p a0 len0 cap0) a wr) {K0 : Act → World → Prop} (hexit : ∀ a' w', WR (RRel w n p a0 len0 cap0) a' w' → K0 a' w') :
    Code.wp Try.prog (Code.loop body4) (Exit.inBlock 0 (Exit.then K0 (bodyPost Try.prog Try.f4 (fun e w' => e = .returned (.bool true) ∧ Below w.heap.size w w')))) a wr := by
  refine wp_loop (WR (RRel w n p a0 len0 cap0)) (Rmu len0) hI ?_
  rintro a' w' ⟨u, hu, rfl⟩
  exact rround hl hn2 acts hu hexit

theorem field_bool {H : Type} {enc : TypeId × Value → H} {w : World} {base : Nat} {spare : Nat → Bool} {held : Bool} {t : TypeId} {fs : Array Field} {fuel : Nat} {cs : List Value} {x : DataW H × List MemPlace} (ht : Try.prog.underlying t = some (.struct fs)) (h : DataW.trod enc Try.prog w base spare held fuel t cs = some x)
    (j : Nat) (f : Field) (hf : fs[j]? = some f) (hu : Try.prog.underlying f.type = some .bool) (hc : Try.prog.cellsOf f.type = 1) : ∃ z, cs[f.offset]? = some (.bool z) := by
  obtain ⟨n, y, h1⟩ := field_read ht h j f hf
  rw [hc] at h1
  obtain ⟨z, e, _⟩ := DataW.trod_bool hu h1
  refine ⟨z, ?_⟩
  have h2 : ((cs.drop f.offset).take 1)[0]? = some (.bool z) := by rw [e]; rfl
  simpa [List.getElem?_take, List.getElem?_drop] using h2
theorem racts_open {H : Type} {enc : TypeId × Value → H} {W : World} {base : Nat} {held : Bool} {fuel : Nat} {a : Option Addr} {len cap : Nat} {y : DataW H × List MemPlace}
    (h : DataW.trod enc Try.prog W base (fun _ => true) held fuel 34 [.slice a len cap] = some y) : RActs W a len := by
  rcases Go.Deep.open_slice Try.underlying34 h with ⟨hcs, _⟩ | ⟨x, l, c, m, n, D, Pl, hcs, hb, hl, hm, hmm, _, hi⟩
  · simp only [List.cons.injEq, Value.slice.injEq, and_true] at hcs
    obtain ⟨rfl, rfl, rfl⟩ := hcs
    intro i hi; omega
  · simp only [List.cons.injEq, Value.slice.injEq, and_true] at hcs
    obtain ⟨rfl, rfl, rfl⟩ := hcs
    intro i hlt
    obtain ⟨cs', hc, ht⟩ := hi i (by rw [hmm]; simp; omega)
    rw [show Try.prog.cellsOf 37 = 2 by kernel_rfl] at hc
    obtain ⟨_, hcl, hat⟩ := World.cells?_some hc
    obtain ⟨gv, e0⟩ := field_bool Try.underlying37 ht 0 _ rfl Try.underlying4 (by kernel_rfl)
    obtain ⟨n', e1, w1⟩ := field_int Try.underlying37 ht 1 _ rfl Try.underlying3 (by kernel_rfl)
    have hadd : ∀ j, j < 2 → W.cell? (x.add (i * 2 + j)) = cs'[j]? := fun j hj => by
      rw [← Go.Deep.add_add]; exact hat j hj
    exact ⟨x, gv, n', rfl, ⟨(hadd 0 (by decide)).trans e0, (hadd 1 (by decide)).trans e1, w1⟩⟩
end Go.Proofs.Ytmjnoboeffajbaa
