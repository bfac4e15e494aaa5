/- BlockPlays: the walk. -/
import Derived.Test.YtaeicondmiikaaaCq
import Derived.WalkKit
import Derived.ProofKit
import Derived.OpenShut
import Derived.ShutString
import Derived.ChangeOld
import Derived.Below
import Derived.Deep.Slices
import Derived.Deep.Fields
import Derived.ChangeSame
namespace Go.Proofs.Ytaeicondmiikaaa
open Go.ChangeShapes Go.WideShapes Go.ChangeAt Go.RowKit Go.Maps Go.Deep
set_option linter.unusedSimpArgs false
set_option linter.unusedVariables false

theorem bfield_read {H : Type} {enc : TypeId × Value → H} {w : World} {base : Nat} {spare : Nat → Bool} {held : Bool} {t : TypeId} {fs : Array Field} {fuel : Nat} {cs : List Value} {x : DataW H × List MemPlace} (ht : Try.prog.underlying t = some (.struct fs)) (h : DataW.trod enc Try.prog w base spare held fuel t cs = some x)
    (j : Nat) (f : Field) (hf : fs[j]? = some f) : ∃ n y, DataW.trod enc Try.prog w base spare held n f.type ((cs.drop f.offset).take (Try.prog.cellsOf f.type)) = some y := by
  obtain ⟨xs, n, _, _, _, hlen, hat⟩ := DataW.trod_struct ht h
  have h1 := hat j f hf
  have hj : j < xs.length := by rw [hlen]; exact (Array.getElem?_eq_some_iff.1 hf).1
  rw [List.getElem?_eq_getElem hj] at h1
  exact ⟨n, _, h1⟩
theorem bfield_int {H : Type} {enc : TypeId × Value → H} {w : World} {base : Nat} {spare : Nat → Bool} {held : Bool} {t : TypeId} {fs : Array Field} {fuel : Nat} {cs : List Value} {x : DataW H × List MemPlace} (ht : Try.prog.underlying t = some (.struct fs)) (h : DataW.trod enc Try.prog w base spare held fuel t cs = some x)
    (j : Nat) (f : Field) (hf : fs[j]? = some f) {k : IntKind} (hu : Try.prog.underlying f.type = some (.int k)) (hc : Try.prog.cellsOf f.type = 1) : ∃ z, cs[f.offset]? = some (.int k z) ∧ (Lit.int k z).wf = true := by
  obtain ⟨n, y, h1⟩ := bfield_read ht h j f hf
  rw [hc] at h1
  obtain ⟨z, e, _, hw⟩ := DataW.trod_int hu h1
  refine ⟨z, ?_, hw⟩
  have h2 : ((cs.drop f.offset).take 1)[0]? = some (.int k z) := by rw [e]; rfl
  simpa [List.getElem?_take, List.getElem?_drop] using h2
theorem bfield_bool {H : Type} {enc : TypeId × Value → H} {w : World} {base : Nat} {spare : Nat → Bool} {held : Bool} {t : TypeId} {fs : Array Field} {fuel : Nat} {cs : List Value} {x : DataW H × List MemPlace} (ht : Try.prog.underlying t = some (.struct fs)) (h : DataW.trod enc Try.prog w base spare held fuel t cs = some x)
    (j : Nat) (f : Field) (hf : fs[j]? = some f) (hu : Try.prog.underlying f.type = some .bool) (hc : Try.prog.cellsOf f.type = 1) : ∃ z, cs[f.offset]? = some (.bool z) := by
  obtain ⟨n, y, h1⟩ := bfield_read ht h j f hf
  rw [hc] at h1
  obtain ⟨z, e, _⟩ := DataW.trod_bool hu h1
  refine ⟨z, ?_⟩
  have h2 : ((cs.drop f.offset).take 1)[0]? = some (.bool z) := by rw [e]; rfl
  simpa [List.getElem?_take, List.getElem?_drop] using h2
theorem bacts_open {H : Type} {enc : TypeId × Value → H} {W : World} {base : Nat} {held : Bool} {fuel : Nat} {a : Option Addr} {len cap : Nat} {y : DataW H × List MemPlace}
    (h : DataW.trod enc Try.prog W base (fun _ => true) held fuel 38 [.slice a len cap] = some y) : BActs W a len := by
  rcases Go.Deep.open_slice Try.underlying38 h with ⟨hcs, _⟩ | ⟨x, l, c, m, n, D, Pl, hcs, hb, hl, hm, hmm, _, hi⟩
  · simp only [List.cons.injEq, Value.slice.injEq, and_true] at hcs
    obtain ⟨rfl, rfl, rfl⟩ := hcs
    intro i hi; omega
  · simp only [List.cons.injEq, Value.slice.injEq, and_true] at hcs
    obtain ⟨rfl, rfl, rfl⟩ := hcs
    intro i hlt
    obtain ⟨cs', hc, ht⟩ := hi i (by rw [hmm]; simp; omega)
    rw [show Try.prog.cellsOf 42 = 4 by kernel_rfl] at hc
    obtain ⟨_, hcl, hat⟩ := World.cells?_some hc
    obtain ⟨kind, e0, w0⟩ := bfield_int Try.underlying42 ht 0 _ rfl Try.underlying5 (by kernel_rfl)
    obtain ⟨id, e1, w1⟩ := bfield_int Try.underlying42 ht 1 _ rfl Try.underlying3 (by kernel_rfl)
    obtain ⟨n', e2, w2⟩ := bfield_int Try.underlying42 ht 2 _ rfl Try.underlying3 (by kernel_rfl)
    obtain ⟨lg, e3⟩ := bfield_bool Try.underlying42 ht 3 _ rfl Try.underlying4 (by kernel_rfl)
    have hadd : ∀ j, j < 4 → W.cell? (x.add (i * 4 + j)) = cs'[j]? := fun j hj => by
      rw [← Go.Deep.add_add]; exact hat j hj
    exact ⟨x, kind, id, n', lg, rfl, ⟨(hadd 0 (by decide)).trans e0, (hadd 1 (by decide)).trans e1, (hadd 2 (by decide)).trans e2, (hadd 3 (by decide)).trans e3, w0, w1⟩⟩
theorem bstart {w w4 : World} {sz cp k p bm : Nat} {fail : Int} (hk : k = min cp 70) (s4 : StoreAt w4 p bm ⟨sz, cp, 0, 0, fail, false, []⟩) (b4 : Below w.heap.size w w4) (hp : w.heap.size ≤ p) (hb : w.heap.size ≤ bm) :
    BPlays w sz cp fail k w4.heap.size p bm (w4.alloc (.cells (PE.fl (List.replicate k ⟨false, 0⟩)).toArray 44)) ⟨sz, cp, 0, 0, fail, false, []⟩ (List.replicate k ⟨false, 0⟩) (List.replicate k ⟨false, 0⟩) 0 := by
  have t : Touch (fun _ => False) w4 (w4.alloc (.cells (PE.fl (List.replicate k ⟨false, 0⟩)).toArray 44)) := Touch.alloc _ _ _
  refine ⟨s4.kept t (fun _ _ h => h), rfl, rfl, rfl, by simp, hk, (MapKept.heap_alloc w4 _).1, ?_, b4.size, ?_, b4.trans (t.toBelow b4.size (fun _ h => h.elim)), ⟨fun y hy => (by cases hy), fun j v hj => ?_, by simp, by simp⟩⟩
  · rintro (e | e | e)
    · have := s4.ltp; omega
    · have := s4.ltm; omega
    · simp at e
  · rintro q (e | e | e)
    · rw [e]; exact hp
    · rw [e]; exact hb
    · simp at e
  · rw [List.getElem?_replicate] at hj
    split at hj <;> cases hj

set_option maxRecDepth 100000 in
set_option maxHeartbeats 4000000 in
theorem bplays_walk (size cap fail : Int) (a0 : Option Addr) (len0 cap0 : Nat) (w : World) (acts : BActs w a0 len0) :
    Calls Try.prog 6 #[.int .i64 size, .int .i64 cap, .int .i64 fail, .slice a0 len0 cap0] w fun e w' => e = .returned (.bool true) ∧ Below w.heap.size w w' := by
  have ACTS := Lib.hid acts
  clear acts
  by_cases hlen : 60 < len0
  · go_enter Try.func6, Try.ntmps6
    go_wp2_with fail
    refine (awake_any w).mono ?_
    rintro e w2 ⟨rfl, b2⟩
    go_wp2_with fail
    go_ret
    exact ⟨rfl, b2⟩
  · by_cases hs : size < 16 ∨ 1024 < size ∨ cap < 0 ∨ 4096 < cap
    · have NE := Lib.hid (fun w => new_err size cap w hs)
      have hs2 : size < 16 ∨ (¬ size < 16 ∧ 1024 < size) ∨ (¬ size < 16 ∧ ¬ 1024 < size ∧ cap < 0) ∨ (¬ size < 16 ∧ ¬ 1024 < size ∧ ¬ cap < 0 ∧ 4096 < cap) := by omega
      clear hs
      rcases hs2 with hs | ⟨h1, hs⟩ | ⟨h1, h2, hs⟩ | ⟨h1, h2, h3, hs⟩
      all_goals
        go_enter Try.func6, Try.ntmps6
        go_wp2_with fail
        refine (awake_any w).mono ?_
        rintro e w2 ⟨rfl, b2⟩
        go_wp2_with fail
        refine (NE.out _).mono ?_
        rintro e w3 ⟨rfl, rfl⟩
        go_wp2_with fail
        go_ret
        exact ⟨rfl, b2⟩
    · obtain ⟨sz, rfl⟩ := Int.eq_ofNat_of_zero_le (show 0 ≤ size by omega)
      obtain ⟨cp, rfl⟩ := Int.eq_ofNat_of_zero_le (show 0 ≤ cap by omega)
      have hs1 : 16 ≤ sz := by omega
      have hs2 : sz ≤ 1024 := by omega
      have hc2 : cp ≤ 4096 := by omega
      clear hs
      have MK7 := fun w => run_make40 70 (by decide) w
      rw [show ((70 : Nat) : Int) = 70 from rfl] at MK7
      go_enter Try.func6, Try.ntmps6
      go_wp2_with fail
      refine (awake_any w).mono ?_
      rintro e w2 ⟨rfl, b2⟩
      go_wp2_with fail
      refine (new_ok sz cp w2 hs1 hs2 hc2).mono ?_
      rintro e w3 ⟨p, bm, rfl, s3, hp3, hb3, t3⟩
      have b3 : Below w.heap.size w w3 := b2.trans (t3.toBelow b2.size (fun _ h => h.elim))
      have hpw : w.heap.size ≤ p := Nat.le_trans b2.size hp3
      have hbw : w.heap.size ≤ bm := Nat.le_trans b2.size hb3
      have FA := Lib.hid (failAt_any s3 fail)
      clear t3 b2 hp3 hb3 s3
      go_wp2_with fail
      refine FA.out.mono ?_
      rintro e w4 ⟨rfl, s4, t4⟩
      clear FA
      have b4 := b3.trans (t4.toBelow b3.size (fun q hq => by rw [hq]; exact hpw))
      clear b3 t4
      have S4 := Lib.hid s4
      clear s4
      have hmin : cp < 70 ∨ cp = 70 ∨ 70 < cp := by omega
      rcases hmin with hm | rfl | hm
      · have hm2 : (cp : Int) < 70 := by omega
        clear MK7
        have MK := fun w => run_make40 cp (by omega) w
        go_wp2_with fail
        refine loop6 (by omega) ⟨hs1, hs2⟩ ACTS.out (WB.intro rfl ⟨0, _, List.replicate cp ⟨false, 0⟩, rfl, rfl, rfl, rfl, rfl, Nat.zero_le _, bstart (k := cp) (by omega) S4.out b4 hpw hbw, rfl, rfl, rfl, rfl, rfl, rfl⟩) ?_
        clear S4 b4 ACTS
        rintro a9 w9 ⟨u, ⟨j, S, l, u12, u13, u14, u15, u16, hj, P, u0, u1, u2, u3, u9, u11⟩, rfl⟩
        simp only [frame6, u0, u1, u2, u3, u9, u11, u12, u13, u14, u15, u16]
        clear u0 u1 u2 u3 u9 u11 u12 u13 u14 u15 u16
        have SZ := size_any P.st
        have CP := capacity_any P.st
        rw [P.e1] at SZ
        rw [P.e2] at CP
        have SZ := Lib.hid SZ
        have CP := Lib.hid CP
        have BX := P.bel
        clear P
        go_wp2_with fail
        refine SZ.out.mono ?_
        rintro e w8 ⟨rfl, rfl⟩
        go_wp2_with fail
        refine CP.out.mono ?_
        rintro e w8 ⟨rfl, rfl⟩
        go_wp2_with fail
        go_ret
        exact ⟨rfl, BX⟩
      · go_wp2_with fail
        refine loop6 (by omega) ⟨hs1, hs2⟩ ACTS.out (WB.intro rfl ⟨0, _, List.replicate 70 ⟨false, 0⟩, rfl, rfl, rfl, rfl, rfl, Nat.zero_le _, bstart (k := 70) (by omega) S4.out b4 hpw hbw, rfl, rfl, rfl, rfl, rfl, rfl⟩) ?_
        clear S4 b4 ACTS
        rintro a9 w9 ⟨u, ⟨j, S, l, u12, u13, u14, u15, u16, hj, P, u0, u1, u2, u3, u9, u11⟩, rfl⟩
        simp only [frame6, u0, u1, u2, u3, u9, u11, u12, u13, u14, u15, u16]
        clear u0 u1 u2 u3 u9 u11 u12 u13 u14 u15 u16
        have SZ := size_any P.st
        have CP := capacity_any P.st
        rw [P.e1] at SZ
        rw [P.e2] at CP
        have SZ := Lib.hid SZ
        have CP := Lib.hid CP
        have BX := P.bel
        clear P
        go_wp2_with fail
        refine SZ.out.mono ?_
        rintro e w8 ⟨rfl, rfl⟩
        go_wp2_with fail
        refine CP.out.mono ?_
        rintro e w8 ⟨rfl, rfl⟩
        go_wp2_with fail
        go_ret
        exact ⟨rfl, BX⟩
      · have hm2 : (70 : Int) < (cp : Int) := by omega
        go_wp2_with fail
        refine loop6 (by omega) ⟨hs1, hs2⟩ ACTS.out (WB.intro rfl ⟨0, _, List.replicate 70 ⟨false, 0⟩, rfl, rfl, rfl, rfl, rfl, Nat.zero_le _, bstart (k := 70) (by omega) S4.out b4 hpw hbw, rfl, rfl, rfl, rfl, rfl, rfl⟩) ?_
        clear S4 b4 ACTS
        rintro a9 w9 ⟨u, ⟨j, S, l, u12, u13, u14, u15, u16, hj, P, u0, u1, u2, u3, u9, u11⟩, rfl⟩
        simp only [frame6, u0, u1, u2, u3, u9, u11, u12, u13, u14, u15, u16]
        clear u0 u1 u2 u3 u9 u11 u12 u13 u14 u15 u16
        have SZ := size_any P.st
        have CP := capacity_any P.st
        rw [P.e1] at SZ
        rw [P.e2] at CP
        have SZ := Lib.hid SZ
        have CP := Lib.hid CP
        have BX := P.bel
        clear P
        go_wp2_with fail
        refine SZ.out.mono ?_
        rintro e w8 ⟨rfl, rfl⟩
        go_wp2_with fail
        refine CP.out.mono ?_
        rintro e w8 ⟨rfl, rfl⟩
        go_wp2_with fail
        go_ret
        exact ⟨rfl, BX⟩
end Go.Proofs.Ytaeicondmiikaaa
