/- ArenaRooms: a room given back. -/
import Derived.Test.YtmjnoboeffajbaaRc
namespace Go.Proofs.Ytmjnoboeffajbaa
open Go.RowKit Go.Maps
set_option linter.unusedSimpArgs false
set_option linter.unusedVariables false

set_option maxRecDepth 1000000 in
set_option maxHeartbeats 4000000 in
theorem rcase_gFound {w : World} {n p : Nat} {A : Ar} {R : Rp} {wr : World} {u : Nat → Value} {j : Nat} {l : List Rm} {a : Option Addr} {cap g o len0 cap0 : Nat} {gv : Bool} {x : Int}
    (H : Rrd w n p A R wr u j l a cap g o len0 cap0 gv x) {K0 : Act → World → Prop} {k : Nat} {r : Rm} (hgv : gv = true) (hK1 : lastK (takenAt x) l l.length = (k : Int)) (hk : l[k]? = some r) (hr : r.tk = true) (hx : (r.pos : Int) = x) :
    Code.wp Try.prog body4 (ROut w n p j g o len0 cap0 K0) (frame4 u) wr := by
  obtain ⟨u0, u1, u5, u7, u8, u9, u10, hj, l60, d0, d1, P, hxr, hn2⟩ := H
  conv => arg 2; whnf
  simp only [frame4, u0, u1, u5, u7, u8, u9, u10]
  clear u0 u1 u5 u7 u8 u9 u10
  have hll := P.inv.len
  have hlv := P.inv.lv
  subst hx
  have hr3 := P.inv.sz r (List.mem_iff_getElem?.2 ⟨k, hk⟩)
  have CA := P.give (by omega) hk hr
  have CA := Lib.hid CA
  have hkl : k < l.length := (List.getElem?_eq_some_iff.1 hk).1
  have ew3 : IntKind.i64.wrap (A.live - (r.sz : Int)) = A.live - (r.sz : Int) := IntWalk.i64_in _ (by omega)
  have ew4 : IntKind.i64.wrap ((k : Int) + 1) = ((k + 1 : Nat) : Int) := by rw [IntWalk.i64_in _ (by omega)]; omega
  have HKR := Lib.hid hk
  have HRT := Lib.hid hr
  clear P
  subst hgv
  go_wp2_with fail
  refine CA.out.mono ?_
  rintro e w6 ⟨rfl, A', R', P6, eh, el, st⟩
  have PH := Lib.hid P6
  clear CA P6 st
  go_wp2_with fail
  go_loopw [13, 14] (fun av kv wl => ∃ i : Nat, av = .int .i64 (lastK (takenAt (r.pos : Int)) l i) ∧ kv = .int .i64 i ∧ i ≤ l.length ∧ wl = w6) (fun _ kv _ => l.length - (intOf kv).toNat)
  case atStart => exact ⟨0, rfl, rfl, Nat.zero_le _, rfl⟩
  case round =>
    obtain ⟨i, rfl, rfl, hi, rfl⟩ := hrel
    by_cases hik : i < l.length
    · rcases PH.out.row.form with ⟨_, _, hf⟩ | ⟨gm, rfl, hcap, _⟩
      · rw [hf] at hik; simp at hik
      obtain ⟨⟨ps, sz, tk⟩, hr⟩ : ∃ r, l[i]? = some r := ⟨_, List.getElem?_eq_getElem hik⟩
      have M0 := PH.out.row.cell hr 0 (by decide)
      have M1 := PH.out.row.cell hr 1 (by decide)
      have M2 := PH.out.row.cell hr 2 (by decide)
      have M0 : _ = some (Value.int .i64 (ps : Int)) := M0
      have M1 : _ = some (Value.int .i64 (sz : Int)) := M1
      have M2 : _ = some (Value.bool tk) := M2
      rw [show i * RE.K + 0 = i * 3 from rfl] at M0
      rw [show i * RE.K + 1 = i * 3 + 1 from rfl] at M1
      rw [show i * RE.K + 2 = i * 3 + 2 from rfl] at M2
      have LS := lastK_succ (p := takenAt (r.pos : Int)) hr
      by_cases hp : takenAt (r.pos : Int) ⟨ps, sz, tk⟩ = true
      · rw [if_pos hp] at LS
        have hp2 : tk = true ∧ (ps : Int) = (r.pos : Int) := by simpa [freeOf, takenAt] using hp
        obtain ⟨rfl, hp3⟩ := hp2
        clear hp
        go_wp2_with fail
        go_roundw
        case rel => exact ⟨i + 1, by rw [LS], by go_num, by omega, trivial⟩
        case measure => simp [intOf]; omega
      · rw [if_neg hp] at LS
        cases tk with
        | false =>
          clear hp
          go_wp2_with fail
          go_roundw
          case rel => exact ⟨i + 1, by rw [LS], by go_num, by omega, trivial⟩
          case measure => simp [intOf]; omega
        | true =>
          have hp3 : ¬ (ps : Int) = (r.pos : Int) := by simpa [freeOf, takenAt] using hp
          clear hp
          go_wp2_with fail
          go_roundw
          case rel => exact ⟨i + 1, by rw [LS], by go_num, by omega, trivial⟩
          case measure => simp [intOf]; omega
    · obtain rfl : i = l.length := by omega
      rw [hK1]
      rcases PH.out.row.form with ⟨_, _, hf⟩ | ⟨gm, rfl, hcap, _⟩
      · rw [hf] at hkl; simp at hkl
      have M0 : _ = some (Value.int .i64 (r.pos : Int)) := PH.out.row.cell HKR.out 0 (by decide)
      have M1 : _ = some (Value.int .i64 (r.sz : Int)) := PH.out.row.cell HKR.out 1 (by decide)
      have M2 : _ = some (Value.bool r.tk) := PH.out.row.cell HKR.out 2 (by decide)
      rw [show k * RE.K + 0 = k * 3 from rfl] at M0
      rw [show k * RE.K + 1 = k * 3 + 1 from rfl] at M1
      rw [show k * RE.K + 2 = k * 3 + 2 from rfl] at M2
      rw [hr] at M2
      have tX : Touch (fun _ => False) wr (wr.alloc (.cells #[.int .i64 r.pos, .int .i64 r.sz, .bool false] 39)) := Touch.alloc _ _ _
      have X7 : XC (wr.alloc (.cells #[.int .i64 r.pos, .int .i64 r.sz, .bool false] 39)) wr.heap.size ⟨r.pos, r.sz, false⟩ := XC.new wr ⟨r.pos, r.sz, false⟩
      have P7 := PH.out.fresh tX
      clear PH hr tX
      go_wp2_with fail
      obtain ⟨zx, hzx⟩ : ∃ z, z = wr.heap.size := ⟨_, rfl⟩
      obtain ⟨wB, hwB⟩ : ∃ wB, wB = wr.alloc (.cells #[.int .i64 r.pos, .int .i64 r.sz, .bool false] 39) := ⟨_, rfl⟩
      rw [← hzx] at X7 ⊢
      rw [← hwB] at X7 P7 ⊢
      clear hwB hzx M0 M1 M2
      have cA := X7
      have cB := X7.kept (Touch.drew (fun _ => False) wB) (fun h => h)
      have cC := X7.kept ((Touch.drew (fun _ => False) wB).trans (Touch.alloc _ _ (.cells #[] 39))) (fun h => h)
      have cB0 := cB.c0
      have cB1 := cB.c1
      have cB2 := cB.c2
      have cC0 := cC.c0
      have cC1 := cC.c1
      have cC2 := cC.c2
      have cD := X7.kept (Touch.alloc (fun _ => False) wB (.cells #[] 39)) (fun h => h)
      have cD0 := cD.c0
      have cD1 := cD.c1
      have cD2 := cD.c2
      have cA0 := cA.c0
      have cA1 := cA.c1
      have cA2 := cA.c2
      clear cA cB cC cD
      have hlen2 : l.length - (k + 1) = (l.drop (k + 1)).length := by simp
      have S1 : Hid (ESrc RE wB (.slice (some ⟨gm, 0, Option.none⟩) k cap) (l.take k)) := Lib.hid (P7.row.part k (by omega) cap)
      obtain ⟨OFF, hOFF⟩ : ∃ o, o = if cap = k + 1 then 0 else (k + 1) * 3 := ⟨_, rfl⟩
      have hoff : (if cap = k + 1 then some ⟨gm, 0, Option.none⟩ else some ⟨gm, (k + 1) * 3, Option.none⟩ : Option Addr) = some ⟨gm, OFF, Option.none⟩ := by rw [hOFF]; split <;> rfl
      have S2 : Hid (ESrc RE wB (.slice (some ⟨gm, OFF, Option.none⟩) (l.length - (k + 1)) (cap - (k + 1))) (l.drop (k + 1))) := Lib.hid (P7.row.rest (k + 1) _ (by omega) rfl _ _ (by rw [hOFF]; split <;> first | (left; rfl) | (right; omega)))
      have B1 : Hid (EBld RE wB (wB.drew.alloc (.cells #[] 39)) (some ⟨wB.heap.size, 0, Option.none⟩) 0 0 []) := Lib.hid (EBld.lit (Touch.drew _ _))
      have B1b : Hid (EBld RE wB (wB.alloc (.cells #[] 39)).drew (some ⟨wB.heap.size, 0, Option.none⟩) 0 0 []) := Lib.hid (EBld.lit (Touch.refl _ _)).drew
      have hB2 : ∀ W, EBld RE wB W (some ⟨wB.heap.size, 0, Option.none⟩) 0 0 [] → W.heap.size = wB.heap.size + 1 → EBld RE wB (W.alloc (.cells #[.int .i64 r.pos, .int .i64 r.sz, .bool false] 39)) (some ⟨wB.heap.size, 0, Option.none⟩) 0 0 [] ∧ XC (W.alloc (.cells #[.int .i64 r.pos, .int .i64 r.sz, .bool false] 39)) (wB.heap.size + 1) ⟨r.pos, r.sz, false⟩ := fun W hW hs => ⟨hW.fresh (Touch.alloc _ _ _), by have := XC.new W ⟨r.pos, r.sz, false⟩; rwa [hs] at this⟩
      have B2 := Lib.hid (hB2 _ B1.out (by simp))
      have B2b := Lib.hid (hB2 _ B1b.out (by simp))
      have B2c := Lib.hid (show EBld RE wB ((wB.alloc (.cells #[] 39)).alloc (.cells #[.int .i64 r.pos, .int .i64 r.sz, .bool false] 39)).drew (some ⟨wB.heap.size, 0, Option.none⟩) 0 0 [] ∧ XC ((wB.alloc (.cells #[] 39)).alloc (.cells #[.int .i64 r.pos, .int .i64 r.sz, .bool false] 39)).drew (wB.heap.size + 1) ⟨r.pos, r.sz, false⟩ from by
        have := hB2 (wB.alloc (.cells #[] 39)) (EBld.lit (Touch.refl _ _)) (by simp)
        exact ⟨this.1.drew, this.2.kept (Touch.drew (fun _ => False) _) (fun h => h)⟩)
      have hB3 : ∀ W, Touch (fun _ => False) wB W → W.heap.size = wB.heap.size → ∀ V, V = W.alloc (.cells #[.int .i64 r.pos, .int .i64 r.sz, .bool false] 39) ∨ V = (W.alloc (.cells #[.int .i64 r.pos, .int .i64 r.sz, .bool false] 39)).drew → EBld RE wB (V.alloc (.cells #[] 39)) (some ⟨wB.heap.size + 1, 0, Option.none⟩) 0 0 [] ∧ XC (V.alloc (.cells #[] 39)) wB.heap.size ⟨r.pos, r.sz, false⟩ := by
        intro W tW hs V hV
        have hx := XC.new W ⟨r.pos, r.sz, false⟩
        rw [hs] at hx
        have hz : V.heap.size = wB.heap.size + 1 := by rcases hV with rfl | rfl <;> simp [hs]
        have tV : Touch (fun _ => False) (W.alloc (.cells #[.int .i64 r.pos, .int .i64 r.sz, .bool false] 39)) V := by
          rcases hV with rfl | rfl
          · exact Touch.refl _ _
          · exact Touch.drew _ _
        have hl := EBld.lit (e := RE) ((tW.trans (Touch.alloc _ _ (.cells #[.int .i64 r.pos, .int .i64 r.sz, .bool false] 39))).trans tV)
        rw [hz] at hl
        exact ⟨hl, (hx.kept tV (fun h => h)).kept (Touch.alloc (fun _ => False) _ _) (fun h => h)⟩
      have B3 := Lib.hid (hB3 wB.drew (Touch.drew _ _) rfl _ (.inl rfl))
      have B3b := Lib.hid (hB3 wB (Touch.refl _ _) rfl _ (.inr rfl))
      have B3c := Lib.hid (show EBld RE wB ((wB.alloc (.cells #[.int .i64 r.pos, .int .i64 r.sz, .bool false] 39)).alloc (.cells #[] 39)).drew (some ⟨wB.heap.size + 1, 0, Option.none⟩) 0 0 [] ∧ XC ((wB.alloc (.cells #[.int .i64 r.pos, .int .i64 r.sz, .bool false] 39)).alloc (.cells #[] 39)).drew wB.heap.size ⟨r.pos, r.sz, false⟩ from by
        have := hB3 wB (Touch.refl _ _) rfl _ (.inl rfl)
        exact ⟨this.1.drew, this.2.kept (Touch.drew (fun _ => False) _) (fun h => h)⟩)
      clear hB2 hB3
      have PX := Lib.hid P7
      have XH := Lib.hid X7
      have hl2 := Lib.hid hll
      have l1 : (l.take k).length = k := by simp; omega
      obtain ⟨L1, hL1⟩ : ∃ L, L = l.take k := ⟨_, rfl⟩
      obtain ⟨L2, hL2⟩ : ∃ L, L = l.drop (k + 1) := ⟨_, rfl⟩
      have EL := Lib.hid (And.intro hL1 hL2)
      rw [← hL1] at S1 l1
      rw [← hL2] at S2 hlen2
      rw [hlen2] at S2
      have hI1 : (0 : Int) ≤ (k : Int) + 1 := by omega
      have hI2 : (k : Int) + 1 ≤ (l.length : Int) := by omega
      have LN := Lib.hid (show L1.length + L2.length ≤ 100 by omega)
      have hlo : k ≤ cap := by omega
      have hlo2 : k + 1 ≤ l.length := by omega
      clear hL1 hL2 P7 X7 hlv hr3 l1 hOFF
      go_region_law (first
        | (refine step_append_b (w := wB) (av := some ⟨wB.heap.size, 0, Option.none⟩) (i := 0) (cap := 0) (l := []) (L := L1) (v := .slice (some ⟨gm, 0, Option.none⟩) k cap) (by rfl) (.tmp 113) (.tmp 116) (by rfl) (by rfl) (by simp [Act.eval, Act.put]) (by simp [Act.eval, Act.put]) (by first | exact B1.out | exact B1b.out) S1.out (by have := LN.out; omega) ?_
           intro a1 c1 w7 b1 t1 n1
           have x7 := XH.out.kept b1.t (fun h => h)
           have x70 := x7.c0
           have x71 := x7.c1
           have x72 := x7.c2)
        | (refine step_append_b (w := wB) (av := some ⟨wB.heap.size, 0, Option.none⟩) (i := 0) (cap := 0) (l := []) (L := L1) (v := .slice (some ⟨gm, 0, Option.none⟩) k cap) (by rfl) (.tmp 113) (.tmp 116) (by rfl) (by rfl) (by simp [Act.eval, Act.put]) (by simp [Act.eval, Act.put]) (by first | exact B2.out.1 | exact B2b.out.1 | exact B2c.out.1) S1.out (by have := LN.out; omega) ?_
           intro a1 c1 w7 b1 t1 n1
           first
             | (have y1 := B2.out.2.kept t1 (by simp [Value.ownBlock])
                have y1n : ∀ k, (Value.slice a1 (0 + L1.length) c1).ownBlock = some k → k ≠ wB.heap.size + 1 := fun k hk => (n1 k hk).elim (fun h => by simp [Value.ownBlock] at h; omega) (fun h => by have := B2.out.2.lt; omega))
             | (have y1 := B2b.out.2.kept t1 (by simp [Value.ownBlock])
                have y1n : ∀ k, (Value.slice a1 (0 + L1.length) c1).ownBlock = some k → k ≠ wB.heap.size + 1 := fun k hk => (n1 k hk).elim (fun h => by simp [Value.ownBlock] at h; omega) (fun h => by have := B2b.out.2.lt; omega))
             | (have y1 := B2c.out.2.kept t1 (by simp [Value.ownBlock])
                have y1n : ∀ k, (Value.slice a1 (0 + L1.length) c1).ownBlock = some k → k ≠ wB.heap.size + 1 := fun k hk => (n1 k hk).elim (fun h => by simp [Value.ownBlock] at h; omega) (fun h => by have := B2c.out.2.lt; omega)))
        | (refine step_append_b (w := wB) (av := some ⟨wB.heap.size + 1, 0, Option.none⟩) (i := 0) (cap := 0) (l := []) (L := L1) (v := .slice (some ⟨gm, 0, Option.none⟩) k cap) (by rfl) (.tmp 113) (.tmp 116) (by rfl) (by rfl) (by simp [Act.eval, Act.put]) (by simp [Act.eval, Act.put]) (by first | exact B3.out.1 | exact B3b.out.1 | exact B3c.out.1) S1.out (by have := LN.out; omega) ?_
           intro a1 c1 w7 b1 t1 n1
           first
             | (have y1 := B3.out.2.kept t1 (by simp [Value.ownBlock])
                have y1n : ∀ k, (Value.slice a1 (0 + L1.length) c1).ownBlock = some k → k ≠ wB.heap.size := fun k hk => (n1 k hk).elim (fun h => by simp [Value.ownBlock] at h; omega) (fun h => by have := B3.out.2.lt; omega))
             | (have y1 := B3b.out.2.kept t1 (by simp [Value.ownBlock])
                have y1n : ∀ k, (Value.slice a1 (0 + L1.length) c1).ownBlock = some k → k ≠ wB.heap.size := fun k hk => (n1 k hk).elim (fun h => by simp [Value.ownBlock] at h; omega) (fun h => by have := B3b.out.2.lt; omega))
             | (have y1 := B3c.out.2.kept t1 (by simp [Value.ownBlock])
                have y1n : ∀ k, (Value.slice a1 (0 + L1.length) c1).ownBlock = some k → k ≠ wB.heap.size := fun k hk => (n1 k hk).elim (fun h => by simp [Value.ownBlock] at h; omega) (fun h => by have := B3c.out.2.lt; omega)))
        | (refine step_append_b (w := wB) (av := a1) (i := 0 + L1.length) (cap := c1) (l := [] ++ L1) (L := L2) (v := .slice (some ⟨gm, OFF, Option.none⟩) L2.length (cap - (k + 1))) (by rfl) (.tmp 117) (.tmp 121) (by rfl) (by rfl) (by simp [Act.eval, Act.put]) (by simp [Act.eval, Act.put]) b1 S2.out (by have := LN.out; omega) ?_
           intro a2 c2 w8 b2 t2 n2
           first
             | (have y2 := y1.kept t2 (fun h => y1n _ h rfl))
             | (have x8 := XH.out.kept b2.t (fun h => h)
                have x80 := x8.c0
                have x81 := x8.c1
                have x82 := x8.c2))
        | (refine step_append_b (w := wB) (av := a1) (i := 0 + L1.length) (cap := c1) (l := [] ++ L1) (L := L2) (v := .slice (some ⟨gm, OFF, Option.none⟩) L2.length (cap - (k + 1))) (by rfl) (.tmp 117) (.tmp 121) (by rfl) (by rfl) (by simp [Act.eval, Act.put]) (by simp [Act.eval, Act.put]) (b1.fresh (Touch.alloc _ _ (.cells #[.int .i64 r.pos, .int .i64 r.sz, .bool false] 39))) S2.out (by have := LN.out; omega) ?_
           intro a2 c2 w8 b2 t2 n2
           have y2 := (XC.new w7 ⟨r.pos, r.sz, false⟩).kept t2 (fun h => by have := (b1.own.lt _ h).2; omega))
        | (refine step_append_e (w := wB) (av := a2) (i := 0 + L1.length + L2.length) (cap := c2) (l := [] ++ L1 ++ L2) (L := [⟨r.pos, r.sz, false⟩]) (by rfl) (.tmp 122) (.tmp 124) (by rfl) (by rfl) (by simp [Act.eval, Act.put]) (by simp [Act.eval, Act.put]) b2 y2.src (by have := LN.out; simp; omega) ?_
           intro a3 c3 w9 b3 t3)
        | (refine step_append_e (w := wB) (av := a2) (i := 0 + L1.length + L2.length) (cap := c2) (l := [] ++ L1 ++ L2) (L := [⟨r.pos, r.sz, false⟩]) (by rfl) (.tmp 122) (.tmp 124) (by rfl) (by rfl) (by simp [Act.eval, Act.put]) (by simp [Act.eval, Act.put]) (b2.fresh (Touch.alloc _ _ (.cells #[.int .i64 r.pos, .int .i64 r.sz, .bool false] 39))) (XC.new w8 ⟨r.pos, r.sz, false⟩).src (by have := LN.out; simp; omega) ?_
           intro a3 c3 w9 b3 t3))
      all_goals
        have P9 := PX.out.built b3 (by simp; omega)
        rw [List.nil_append, ← EL.out.1, ← EL.out.2] at P9
        clear b3 t3 b2 t2 n2 b1 t1 n1 B1 B1b B2 B2b B2c B3 B3b B3c S1 S2 PX XH
        go_wp2_with fail
        exact ⟨WR.intro rfl ⟨j + 1, _, _, L1 ++ L2 ++ [⟨r.pos, r.sz, false⟩], _, _, by simp; omega, by rw [eh]; rfl, by rw [el]; rfl, by go_num, by omega, P9, rfl, rfl, rfl⟩, by simp [Rmu, intOf]; omega⟩
end Go.Proofs.Ytmjnoboeffajbaa
