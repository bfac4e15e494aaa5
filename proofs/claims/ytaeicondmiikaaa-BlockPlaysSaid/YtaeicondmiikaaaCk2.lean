/- BlockPlays: nothing to write. -/
import Derived.Test.YtaeicondmiikaaaCj
namespace Go.Proofs.Ytaeicondmiikaaa
open Go.RowKit Go.Maps
set_option linter.unusedSimpArgs false
set_option linter.unusedVariables false

set_option maxRecDepth 1000000 in
set_option maxHeartbeats 4000000 in
theorem bcase_wa2_00 {w : World} {size cap : Nat} {fail : Int} {k gl p bm : Nat} {wr : World} {u : Nat → Value} {j : Nat} {S : St} {l : List Pg} {g o len0 cap0 : Nat} {kind id xn : Int} {lg : Bool}
    (H : Brd w size cap fail k gl p bm wr u j S l g o len0 cap0 kind id xn lg) {K0 : Act → World → Prop} (hf0 : 0 ≤ fail) (hf1 : fail ≤ (S.ops : Int)) (hi0 : id < 0)  (hk : kind % 4 = 3) (hlg : lg = false) :
    Code.wp Try.prog body6 (BOut w size cap fail k gl p bm j g o len0 cap0 K0) (frame6 u) wr := by
  obtain ⟨u0, u1, u2, u3, u9, u11, u12, u13, u14, u15, u16, hj, l60, d0, d1, d2, d3, P, hkr, hsz⟩ := H
  conv => arg 2; whnf
  simp only [frame6, u0, u1, u2, u3, u9, u11, u12, u13, u14, u15, u16]
  clear u0 u1 u2 u3 u9 u11 u12 u13 u14 u15 u16
  have tX : Touch (fun _ => False) wr (wr.alloc (.cells #[.int .u8 kind, .int .i64 id, .int .i64 xn, .bool lg] 42)) := Touch.alloc _ _ _
  have PX := P.fresh tX
  have XA := Lib.hid (XB.new wr kind id xn lg)
  have hzn : ¬ fp S p bm wr.heap.size := fun h => by have := P.ltf _ h; omega
  have hgz : gl < wr.heap.size := P.ltg
  have hops := P.inv.ops
  have hlen := P.inv.len
  have hlk := P.kl
  have hkc : k ≤ 70 := by have := P.kc; omega
  have hws := P.bel.size
  have hpk := P.st.hc.2.2
  have hFS : S.fails = true := by simp [St.fails, P.e3]; omega
  have hIA : id ∉ S.m.map (·.1) := P.inv.absent (.inl hi0)
  have hi2 : ¬ 0 ≤ id := by omega
  subst hlg
  have MK := fun w => run_make22' (size) (by omega) w
  have ewn : IntKind.i64.wrap ((size : Int) + 1) = (size : Int) + 1 := IntWalk.i64_in _ (by omega)
  have hvr : 0 ≤ IntKind.u8.wrap xn ∧ IntKind.u8.wrap xn < 256 := by rw [IntKind.wrap_u8]; omega
  obtain ⟨vv, hvv⟩ := Int.eq_ofNat_of_zero_le hvr.1
  have hvv : IntKind.u8.wrap xn = (vv : Int) := hvv
  clear hvr
  have tB : Touch (fun _ => False) (wr.alloc (.cells #[.int .u8 kind, .int .i64 id, .int .i64 xn, .bool false] 42)) ((wr.alloc (.cells #[.int .u8 kind, .int .i64 id, .int .i64 xn, .bool false] 42)).alloc (.cells (bytesOf (zeros (size))) 5)) := Touch.alloc _ _ _
  have PW := Lib.hid (PX.fresh tB)
  have X0 := Lib.hid (XA.out.kept tB (fun h => h))
  have B0 : BB ((wr.alloc (.cells #[.int .u8 kind, .int .i64 id, .int .i64 xn, .bool false] 42)).alloc (.cells (bytesOf (zeros (size))) 5)) (wr.heap.size + 1) (size) (zeros (size)) := by
    have := BB.new (wr.alloc (.cells #[.int .u8 kind, .int .i64 id, .int .i64 xn, .bool false] 42)) (size)
    rwa [show (wr.alloc (.cells #[.int .u8 kind, .int .i64 id, .int .i64 xn, .bool false] 42)).heap.size = wr.heap.size + 1 by simp] at this
  have B0 := Lib.hid B0
  have hgb : ¬ fp S p bm (wr.heap.size + 1) := fun h => by have := P.ltf _ h; omega
  have HFS := Lib.hid hFS
  have HWS := Lib.hid hws
  clear P PX tX tB hFS XA
  go_wp2_with fail
  generalize hzx : wr.heap.size = zx at *
  clear hzx
  go_loopw [28] (fun kv wl => ∃ q1 : Nat, kv = .int .i64 q1 ∧ q1 ≤ size ∧ Touch (· = zx + 1) ((wr.alloc (.cells #[.int .u8 kind, .int .i64 id, .int .i64 xn, .bool false] 42)).alloc (.cells (bytesOf (zeros (size))) 5)) wl ∧ ∃ cs, BB wl (zx + 1) (size) cs ∧ ∀ q2, q2 < q1 → cs.getD q2 0 = (vv : Int)) (fun kv _ => size - (intOf kv).toNat)
  case atStart => exact ⟨0, rfl, Nat.zero_le _, Touch.refl _ _, _, B0.out, fun q2 h => by omega⟩
  case round =>
    obtain ⟨q1, rfl, hq1, t1, cs, bb, hcs⟩ := hrel
    have X1 := X0.out.kept t1 (by omega)
    by_cases hlt : q1 < size
    · have c2 := X1.c2
      have M0 := bb.cell hlt
      have z0 := bb.fz q1
      have NB := Lib.hid (bb.set q1 (vv : Int))
      have HL := Lib.hid bb.1
      have HC := Lib.hid hcs
      have T1 := Lib.hid (t1.trans (Touch.cell1 wr (zx + 1) q1 (.int .u8 (vv : Int))))
      clear bb hcs t1 X1
      go_wp2_with fail
      go_roundw
      case rel =>
        refine ⟨q1 + 1, by go_num, by omega, T1.out, _, NB.out, fun q2 h => ?_⟩
        rw [List.getD_eq_getElem?_getD, List.getElem?_set]
        by_cases e : q1 = q2
        · rw [if_pos e, if_pos (by have := HL.out; omega)]; rfl
        · rw [if_neg e, ← List.getD_eq_getElem?_getD]; exact HC.out q2 (by omega)
      case measure => simp [intOf]; omega
    · obtain rfl : size = q1 := by omega
      have P1 := PW.out.poke (z := zx + 1) (by have := HWS.out; omega) hgb (by omega) t1
      have c1 := X1.c1
      have c2 := X1.c2
      have c3 := X1.c3
      have hbx : ∀ q2 : Nat, q2 < size → wr.cell? ⟨zx + 1, q2, Option.none⟩ = some (.int .u8 (vv : Int)) := fun q2 h => by rw [bb.cell h, hcs q2 h]
      have CA := Lib.hid (P1.writeA _ hIA (some ⟨zx + 1, 0, Option.none⟩) (size) (size))
      have BBH := Lib.hid bb
      have XH := Lib.hid X1
      clear P1 t1 bb hcs X1 hbx
      go_wp2_with fail
      refine CA.out.mono ?_
      rintro e w6 ⟨rfl, P6, t6⟩
      have PH6 := Lib.hid P6
      have X6 := Lib.hid (XH.out.kept t6 hzn)
      have B6 := Lib.hid (BBH.out.kept t6 hgb)
      clear CA t6 P6 BBH XH c1 c2 c3
      go_wp2_with fail
      go_loopw [30] (fun kv wl => ∃ q1 : Nat, kv = .int .i64 q1 ∧ q1 ≤ size ∧ Touch (· = zx + 1) w6 wl ∧ ∃ cs, BB wl (zx + 1) (size) cs) (fun kv _ => size - (intOf kv).toNat)
      case atStart => exact ⟨0, rfl, Nat.zero_le _, Touch.refl _ _, _, B6.out⟩
      case round =>
        obtain ⟨q1, rfl, hq1, t1, cs, bb⟩ := hrel
        by_cases hlt : q1 < size
        · have M0 := bb.cell hlt
          have z0 := bb.fz q1
          have NB := Lib.hid (bb.set q1 (IntKind.u8.wrap (cs.getD q1 0 + 1)))
          have T1 := Lib.hid (t1.trans (Touch.cell1 wr (zx + 1) q1 (.int .u8 (IntKind.u8.wrap (cs.getD q1 0 + 1)))))
          generalize cs.getD q1 0 = zz at *
          clear bb t1
          go_wp2_with fail
          go_roundw
          case rel => exact ⟨q1 + 1, by go_num, by omega, T1.out, _, NB.out⟩
          case measure => simp [intOf]; omega
        · obtain rfl : size = q1 := by omega
          have P7 := PH6.out.poke (z := zx + 1) (by have := HWS.out; omega) (fun h => hgb h) (by omega) t1
          have X7 := X6.out.kept t1 (by omega)
          have c1 := X7.c1
          have c2 := X7.c2
          have c3 := X7.c3
          clear t1 bb PH6 X6 B6 X7
          have PU : ((S).m.length : Int) = (S.m.length : Int) := rfl
          have PP : ((S).peak : Int) = (S.peak : Int) := rfl
          have PO : ((S).ops : Int) = (S.ops : Int) := rfl
          have PF : (S).failed = S.failed := rfl
          have HU := used_any P7.st
          have HP := peak_any P7.st
          have HO := ops_any P7.st (P7.small (by omega))
          have HD := failed_any P7.st
          rw [PU] at HU
          rw [PP] at HP
          rw [PO] at HO
          rw [PF] at HD
          have HU := Lib.hid HU
          have HP := Lib.hid HP
          have HO := Lib.hid HO
          have HD := Lib.hid HD
          have PH := Lib.hid P7
          have QU := Lib.hid PU
          have QP := Lib.hid PP
          have QO := Lib.hid PO
          have QF := Lib.hid PF
          clear PU PP PO PF
          go_wp2_with fail
          refine HU.out.mono ?_
          rintro e w8 ⟨rfl, rfl⟩
          go_wp2_with fail
          refine HP.out.mono ?_
          rintro e w8 ⟨rfl, rfl⟩
          go_wp2_with fail
          refine HO.out.mono ?_
          rintro e w8 ⟨rfl, rfl⟩
          go_wp2_with fail
          refine HD.out.mono ?_
          rintro e w8 ⟨rfl, nd, rfl⟩
          clear HU HP HO HD
          go_wp2_with fail
          exact ⟨WB.intro rfl ⟨j + 1, S, l, by first | rfl | exact congrArg (Value.int .i64) QU.out.symm, by first | rfl | exact congrArg (Value.int .i64) QP.out.symm, by first | rfl | exact congrArg (Value.int .i64) QO.out.symm, by first | rfl | exact congrArg Value.bool QF.out.symm, by go_num, by omega, PH.out.fresh (Touch.drewN _ _ _), rfl, rfl, rfl, rfl, rfl, rfl⟩, by simp [Bmu, intOf]; omega⟩

set_option maxRecDepth 1000000 in
set_option maxHeartbeats 4000000 in
theorem bcase_wa2_01 {w : World} {size cap : Nat} {fail : Int} {k gl p bm : Nat} {wr : World} {u : Nat → Value} {j : Nat} {S : St} {l : List Pg} {g o len0 cap0 : Nat} {kind id xn : Int} {lg : Bool}
    (H : Brd w size cap fail k gl p bm wr u j S l g o len0 cap0 kind id xn lg) {K0 : Act → World → Prop} (hf0 : 0 ≤ fail) (hf1 : fail ≤ (S.ops : Int)) (hi0 : id < 0)  (hk : kind % 4 = 3) (hlg : lg = true) :
    Code.wp Try.prog body6 (BOut w size cap fail k gl p bm j g o len0 cap0 K0) (frame6 u) wr := by
  obtain ⟨u0, u1, u2, u3, u9, u11, u12, u13, u14, u15, u16, hj, l60, d0, d1, d2, d3, P, hkr, hsz⟩ := H
  conv => arg 2; whnf
  simp only [frame6, u0, u1, u2, u3, u9, u11, u12, u13, u14, u15, u16]
  clear u0 u1 u2 u3 u9 u11 u12 u13 u14 u15 u16
  have tX : Touch (fun _ => False) wr (wr.alloc (.cells #[.int .u8 kind, .int .i64 id, .int .i64 xn, .bool lg] 42)) := Touch.alloc _ _ _
  have PX := P.fresh tX
  have XA := Lib.hid (XB.new wr kind id xn lg)
  have hzn : ¬ fp S p bm wr.heap.size := fun h => by have := P.ltf _ h; omega
  have hgz : gl < wr.heap.size := P.ltg
  have hops := P.inv.ops
  have hlen := P.inv.len
  have hlk := P.kl
  have hkc : k ≤ 70 := by have := P.kc; omega
  have hws := P.bel.size
  have hpk := P.st.hc.2.2
  have hFS : S.fails = true := by simp [St.fails, P.e3]; omega
  have hIA : id ∉ S.m.map (·.1) := P.inv.absent (.inl hi0)
  have hi2 : ¬ 0 ≤ id := by omega
  subst hlg
  have MK := fun w => run_make22' (size + 1) (by omega) w
  have ewn : IntKind.i64.wrap ((size : Int) + 1) = (size : Int) + 1 := IntWalk.i64_in _ (by omega)
  rw [show ((size + 1 : Nat) : Int) = (size : Int) + 1 by omega] at MK
  have hvr : 0 ≤ IntKind.u8.wrap xn ∧ IntKind.u8.wrap xn < 256 := by rw [IntKind.wrap_u8]; omega
  obtain ⟨vv, hvv⟩ := Int.eq_ofNat_of_zero_le hvr.1
  have hvv : IntKind.u8.wrap xn = (vv : Int) := hvv
  clear hvr
  have tB : Touch (fun _ => False) (wr.alloc (.cells #[.int .u8 kind, .int .i64 id, .int .i64 xn, .bool true] 42)) ((wr.alloc (.cells #[.int .u8 kind, .int .i64 id, .int .i64 xn, .bool true] 42)).alloc (.cells (bytesOf (zeros (size + 1))) 5)) := Touch.alloc _ _ _
  have PW := Lib.hid (PX.fresh tB)
  have X0 := Lib.hid (XA.out.kept tB (fun h => h))
  have B0 : BB ((wr.alloc (.cells #[.int .u8 kind, .int .i64 id, .int .i64 xn, .bool true] 42)).alloc (.cells (bytesOf (zeros (size + 1))) 5)) (wr.heap.size + 1) (size + 1) (zeros (size + 1)) := by
    have := BB.new (wr.alloc (.cells #[.int .u8 kind, .int .i64 id, .int .i64 xn, .bool true] 42)) (size + 1)
    rwa [show (wr.alloc (.cells #[.int .u8 kind, .int .i64 id, .int .i64 xn, .bool true] 42)).heap.size = wr.heap.size + 1 by simp] at this
  have B0 := Lib.hid B0
  have hgb : ¬ fp S p bm (wr.heap.size + 1) := fun h => by have := P.ltf _ h; omega
  have HFS := Lib.hid hFS
  have HWS := Lib.hid hws
  clear P PX tX tB hFS XA
  go_wp2_with fail
  generalize hzx : wr.heap.size = zx at *
  clear hzx
  go_loopw [28] (fun kv wl => ∃ q1 : Nat, kv = .int .i64 q1 ∧ q1 ≤ size + 1 ∧ Touch (· = zx + 1) ((wr.alloc (.cells #[.int .u8 kind, .int .i64 id, .int .i64 xn, .bool true] 42)).alloc (.cells (bytesOf (zeros (size + 1))) 5)) wl ∧ ∃ cs, BB wl (zx + 1) (size + 1) cs ∧ ∀ q2, q2 < q1 → cs.getD q2 0 = (vv : Int)) (fun kv _ => size + 1 - (intOf kv).toNat)
  case atStart => exact ⟨0, rfl, Nat.zero_le _, Touch.refl _ _, _, B0.out, fun q2 h => by omega⟩
  case round =>
    obtain ⟨q1, rfl, hq1, t1, cs, bb, hcs⟩ := hrel
    have X1 := X0.out.kept t1 (by omega)
    by_cases hlt : q1 < size + 1
    · have c2 := X1.c2
      have M0 := bb.cell hlt
      have z0 := bb.fz q1
      have NB := Lib.hid (bb.set q1 (vv : Int))
      have HL := Lib.hid bb.1
      have HC := Lib.hid hcs
      have T1 := Lib.hid (t1.trans (Touch.cell1 wr (zx + 1) q1 (.int .u8 (vv : Int))))
      clear bb hcs t1 X1
      go_wp2_with fail
      go_roundw
      case rel =>
        refine ⟨q1 + 1, by go_num, by omega, T1.out, _, NB.out, fun q2 h => ?_⟩
        rw [List.getD_eq_getElem?_getD, List.getElem?_set]
        by_cases e : q1 = q2
        · rw [if_pos e, if_pos (by have := HL.out; omega)]; rfl
        · rw [if_neg e, ← List.getD_eq_getElem?_getD]; exact HC.out q2 (by omega)
      case measure => simp [intOf]; omega
    · obtain rfl : size + 1 = q1 := by omega
      have P1 := PW.out.poke (z := zx + 1) (by have := HWS.out; omega) hgb (by omega) t1
      have c1 := X1.c1
      have c2 := X1.c2
      have c3 := X1.c3
      have hbx : ∀ q2 : Nat, q2 < size + 1 → wr.cell? ⟨zx + 1, q2, Option.none⟩ = some (.int .u8 (vv : Int)) := fun q2 h => by rw [bb.cell h, hcs q2 h]
      have CA := Lib.hid (P1.writeA _ hIA (some ⟨zx + 1, 0, Option.none⟩) (size + 1) (size + 1))
      have BBH := Lib.hid bb
      have XH := Lib.hid X1
      clear P1 t1 bb hcs X1 hbx
      go_wp2_with fail
      refine CA.out.mono ?_
      rintro e w6 ⟨rfl, P6, t6⟩
      have PH6 := Lib.hid P6
      have X6 := Lib.hid (XH.out.kept t6 hzn)
      have B6 := Lib.hid (BBH.out.kept t6 hgb)
      clear CA t6 P6 BBH XH c1 c2 c3
      go_wp2_with fail
      go_loopw [30] (fun kv wl => ∃ q1 : Nat, kv = .int .i64 q1 ∧ q1 ≤ size + 1 ∧ Touch (· = zx + 1) w6 wl ∧ ∃ cs, BB wl (zx + 1) (size + 1) cs) (fun kv _ => size + 1 - (intOf kv).toNat)
      case atStart => exact ⟨0, rfl, Nat.zero_le _, Touch.refl _ _, _, B6.out⟩
      case round =>
        obtain ⟨q1, rfl, hq1, t1, cs, bb⟩ := hrel
        by_cases hlt : q1 < size + 1
        · have M0 := bb.cell hlt
          have z0 := bb.fz q1
          have NB := Lib.hid (bb.set q1 (IntKind.u8.wrap (cs.getD q1 0 + 1)))
          have T1 := Lib.hid (t1.trans (Touch.cell1 wr (zx + 1) q1 (.int .u8 (IntKind.u8.wrap (cs.getD q1 0 + 1)))))
          generalize cs.getD q1 0 = zz at *
          clear bb t1
          go_wp2_with fail
          go_roundw
          case rel => exact ⟨q1 + 1, by go_num, by omega, T1.out, _, NB.out⟩
          case measure => simp [intOf]; omega
        · obtain rfl : size + 1 = q1 := by omega
          have P7 := PH6.out.poke (z := zx + 1) (by have := HWS.out; omega) (fun h => hgb h) (by omega) t1
          have X7 := X6.out.kept t1 (by omega)
          have c1 := X7.c1
          have c2 := X7.c2
          have c3 := X7.c3
          clear t1 bb PH6 X6 B6 X7
          have PU : ((S).m.length : Int) = (S.m.length : Int) := rfl
          have PP : ((S).peak : Int) = (S.peak : Int) := rfl
          have PO : ((S).ops : Int) = (S.ops : Int) := rfl
          have PF : (S).failed = S.failed := rfl
          have HU := used_any P7.st
          have HP := peak_any P7.st
          have HO := ops_any P7.st (P7.small (by omega))
          have HD := failed_any P7.st
          rw [PU] at HU
          rw [PP] at HP
          rw [PO] at HO
          rw [PF] at HD
          have HU := Lib.hid HU
          have HP := Lib.hid HP
          have HO := Lib.hid HO
          have HD := Lib.hid HD
          have PH := Lib.hid P7
          have QU := Lib.hid PU
          have QP := Lib.hid PP
          have QO := Lib.hid PO
          have QF := Lib.hid PF
          clear PU PP PO PF
          go_wp2_with fail
          refine HU.out.mono ?_
          rintro e w8 ⟨rfl, rfl⟩
          go_wp2_with fail
          refine HP.out.mono ?_
          rintro e w8 ⟨rfl, rfl⟩
          go_wp2_with fail
          refine HO.out.mono ?_
          rintro e w8 ⟨rfl, rfl⟩
          go_wp2_with fail
          refine HD.out.mono ?_
          rintro e w8 ⟨rfl, nd, rfl⟩
          clear HU HP HO HD
          go_wp2_with fail
          exact ⟨WB.intro rfl ⟨j + 1, S, l, by first | rfl | exact congrArg (Value.int .i64) QU.out.symm, by first | rfl | exact congrArg (Value.int .i64) QP.out.symm, by first | rfl | exact congrArg (Value.int .i64) QO.out.symm, by first | rfl | exact congrArg Value.bool QF.out.symm, by go_num, by omega, PH.out.fresh (Touch.drewN _ _ _), rfl, rfl, rfl, rfl, rfl, rfl⟩, by simp [Bmu, intOf]; omega⟩

set_option maxRecDepth 1000000 in
set_option maxHeartbeats 4000000 in
theorem bcase_wa2_10 {w : World} {size cap : Nat} {fail : Int} {k gl p bm : Nat} {wr : World} {u : Nat → Value} {j : Nat} {S : St} {l : List Pg} {g o len0 cap0 : Nat} {kind id xn : Int} {lg : Bool}
    (H : Brd w size cap fail k gl p bm wr u j S l g o len0 cap0 kind id xn lg) {K0 : Act → World → Prop} (hf0 : 0 ≤ fail) (hf1 : fail ≤ (S.ops : Int)) (hi0 : 0 ≤ id) (hi1 : (k : Int) ≤ id)  (hk : kind % 4 = 3) (hlg : lg = false) :
    Code.wp Try.prog body6 (BOut w size cap fail k gl p bm j g o len0 cap0 K0) (frame6 u) wr := by
  obtain ⟨u0, u1, u2, u3, u9, u11, u12, u13, u14, u15, u16, hj, l60, d0, d1, d2, d3, P, hkr, hsz⟩ := H
  conv => arg 2; whnf
  simp only [frame6, u0, u1, u2, u3, u9, u11, u12, u13, u14, u15, u16]
  clear u0 u1 u2 u3 u9 u11 u12 u13 u14 u15 u16
  have tX : Touch (fun _ => False) wr (wr.alloc (.cells #[.int .u8 kind, .int .i64 id, .int .i64 xn, .bool lg] 42)) := Touch.alloc _ _ _
  have PX := P.fresh tX
  have XA := Lib.hid (XB.new wr kind id xn lg)
  have hzn : ¬ fp S p bm wr.heap.size := fun h => by have := P.ltf _ h; omega
  have hgz : gl < wr.heap.size := P.ltg
  have hops := P.inv.ops
  have hlen := P.inv.len
  have hlk := P.kl
  have hkc : k ≤ 70 := by have := P.kc; omega
  have hws := P.bel.size
  have hpk := P.st.hc.2.2
  have hFS : S.fails = true := by simp [St.fails, P.e3]; omega
  have hIA : id ∉ S.m.map (·.1) := P.inv.absent (.inr (.inl (by rw [P.kl]; exact hi1)))
  have hi2 : ¬ id < (k : Int) := by omega
  subst hlg
  have MK := fun w => run_make22' (size) (by omega) w
  have ewn : IntKind.i64.wrap ((size : Int) + 1) = (size : Int) + 1 := IntWalk.i64_in _ (by omega)
  have hvr : 0 ≤ IntKind.u8.wrap xn ∧ IntKind.u8.wrap xn < 256 := by rw [IntKind.wrap_u8]; omega
  obtain ⟨vv, hvv⟩ := Int.eq_ofNat_of_zero_le hvr.1
  have hvv : IntKind.u8.wrap xn = (vv : Int) := hvv
  clear hvr
  have tB : Touch (fun _ => False) (wr.alloc (.cells #[.int .u8 kind, .int .i64 id, .int .i64 xn, .bool false] 42)) ((wr.alloc (.cells #[.int .u8 kind, .int .i64 id, .int .i64 xn, .bool false] 42)).alloc (.cells (bytesOf (zeros (size))) 5)) := Touch.alloc _ _ _
  have PW := Lib.hid (PX.fresh tB)
  have X0 := Lib.hid (XA.out.kept tB (fun h => h))
  have B0 : BB ((wr.alloc (.cells #[.int .u8 kind, .int .i64 id, .int .i64 xn, .bool false] 42)).alloc (.cells (bytesOf (zeros (size))) 5)) (wr.heap.size + 1) (size) (zeros (size)) := by
    have := BB.new (wr.alloc (.cells #[.int .u8 kind, .int .i64 id, .int .i64 xn, .bool false] 42)) (size)
    rwa [show (wr.alloc (.cells #[.int .u8 kind, .int .i64 id, .int .i64 xn, .bool false] 42)).heap.size = wr.heap.size + 1 by simp] at this
  have B0 := Lib.hid B0
  have hgb : ¬ fp S p bm (wr.heap.size + 1) := fun h => by have := P.ltf _ h; omega
  have HFS := Lib.hid hFS
  have HWS := Lib.hid hws
  clear P PX tX tB hFS XA
  go_wp2_with fail
  generalize hzx : wr.heap.size = zx at *
  clear hzx
  go_loopw [28] (fun kv wl => ∃ q1 : Nat, kv = .int .i64 q1 ∧ q1 ≤ size ∧ Touch (· = zx + 1) ((wr.alloc (.cells #[.int .u8 kind, .int .i64 id, .int .i64 xn, .bool false] 42)).alloc (.cells (bytesOf (zeros (size))) 5)) wl ∧ ∃ cs, BB wl (zx + 1) (size) cs ∧ ∀ q2, q2 < q1 → cs.getD q2 0 = (vv : Int)) (fun kv _ => size - (intOf kv).toNat)
  case atStart => exact ⟨0, rfl, Nat.zero_le _, Touch.refl _ _, _, B0.out, fun q2 h => by omega⟩
  case round =>
    obtain ⟨q1, rfl, hq1, t1, cs, bb, hcs⟩ := hrel
    have X1 := X0.out.kept t1 (by omega)
    by_cases hlt : q1 < size
    · have c2 := X1.c2
      have M0 := bb.cell hlt
      have z0 := bb.fz q1
      have NB := Lib.hid (bb.set q1 (vv : Int))
      have HL := Lib.hid bb.1
      have HC := Lib.hid hcs
      have T1 := Lib.hid (t1.trans (Touch.cell1 wr (zx + 1) q1 (.int .u8 (vv : Int))))
      clear bb hcs t1 X1
      go_wp2_with fail
      go_roundw
      case rel =>
        refine ⟨q1 + 1, by go_num, by omega, T1.out, _, NB.out, fun q2 h => ?_⟩
        rw [List.getD_eq_getElem?_getD, List.getElem?_set]
        by_cases e : q1 = q2
        · rw [if_pos e, if_pos (by have := HL.out; omega)]; rfl
        · rw [if_neg e, ← List.getD_eq_getElem?_getD]; exact HC.out q2 (by omega)
      case measure => simp [intOf]; omega
    · obtain rfl : size = q1 := by omega
      have P1 := PW.out.poke (z := zx + 1) (by have := HWS.out; omega) hgb (by omega) t1
      have c1 := X1.c1
      have c2 := X1.c2
      have c3 := X1.c3
      have hbx : ∀ q2 : Nat, q2 < size → wr.cell? ⟨zx + 1, q2, Option.none⟩ = some (.int .u8 (vv : Int)) := fun q2 h => by rw [bb.cell h, hcs q2 h]
      have CA := Lib.hid (P1.writeA _ hIA (some ⟨zx + 1, 0, Option.none⟩) (size) (size))
      have BBH := Lib.hid bb
      have XH := Lib.hid X1
      clear P1 t1 bb hcs X1 hbx
      go_wp2_with fail
      refine CA.out.mono ?_
      rintro e w6 ⟨rfl, P6, t6⟩
      have PH6 := Lib.hid P6
      have X6 := Lib.hid (XH.out.kept t6 hzn)
      have B6 := Lib.hid (BBH.out.kept t6 hgb)
      clear CA t6 P6 BBH XH c1 c2 c3
      go_wp2_with fail
      go_loopw [30] (fun kv wl => ∃ q1 : Nat, kv = .int .i64 q1 ∧ q1 ≤ size ∧ Touch (· = zx + 1) w6 wl ∧ ∃ cs, BB wl (zx + 1) (size) cs) (fun kv _ => size - (intOf kv).toNat)
      case atStart => exact ⟨0, rfl, Nat.zero_le _, Touch.refl _ _, _, B6.out⟩
      case round =>
        obtain ⟨q1, rfl, hq1, t1, cs, bb⟩ := hrel
        by_cases hlt : q1 < size
        · have M0 := bb.cell hlt
          have z0 := bb.fz q1
          have NB := Lib.hid (bb.set q1 (IntKind.u8.wrap (cs.getD q1 0 + 1)))
          have T1 := Lib.hid (t1.trans (Touch.cell1 wr (zx + 1) q1 (.int .u8 (IntKind.u8.wrap (cs.getD q1 0 + 1)))))
          generalize cs.getD q1 0 = zz at *
          clear bb t1
          go_wp2_with fail
          go_roundw
          case rel => exact ⟨q1 + 1, by go_num, by omega, T1.out, _, NB.out⟩
          case measure => simp [intOf]; omega
        · obtain rfl : size = q1 := by omega
          have P7 := PH6.out.poke (z := zx + 1) (by have := HWS.out; omega) (fun h => hgb h) (by omega) t1
          have X7 := X6.out.kept t1 (by omega)
          have c1 := X7.c1
          have c2 := X7.c2
          have c3 := X7.c3
          clear t1 bb PH6 X6 B6 X7
          have PU : ((S).m.length : Int) = (S.m.length : Int) := rfl
          have PP : ((S).peak : Int) = (S.peak : Int) := rfl
          have PO : ((S).ops : Int) = (S.ops : Int) := rfl
          have PF : (S).failed = S.failed := rfl
          have HU := used_any P7.st
          have HP := peak_any P7.st
          have HO := ops_any P7.st (P7.small (by omega))
          have HD := failed_any P7.st
          rw [PU] at HU
          rw [PP] at HP
          rw [PO] at HO
          rw [PF] at HD
          have HU := Lib.hid HU
          have HP := Lib.hid HP
          have HO := Lib.hid HO
          have HD := Lib.hid HD
          have PH := Lib.hid P7
          have QU := Lib.hid PU
          have QP := Lib.hid PP
          have QO := Lib.hid PO
          have QF := Lib.hid PF
          clear PU PP PO PF
          go_wp2_with fail
          refine HU.out.mono ?_
          rintro e w8 ⟨rfl, rfl⟩
          go_wp2_with fail
          refine HP.out.mono ?_
          rintro e w8 ⟨rfl, rfl⟩
          go_wp2_with fail
          refine HO.out.mono ?_
          rintro e w8 ⟨rfl, rfl⟩
          go_wp2_with fail
          refine HD.out.mono ?_
          rintro e w8 ⟨rfl, nd, rfl⟩
          clear HU HP HO HD
          go_wp2_with fail
          exact ⟨WB.intro rfl ⟨j + 1, S, l, by first | rfl | exact congrArg (Value.int .i64) QU.out.symm, by first | rfl | exact congrArg (Value.int .i64) QP.out.symm, by first | rfl | exact congrArg (Value.int .i64) QO.out.symm, by first | rfl | exact congrArg Value.bool QF.out.symm, by go_num, by omega, PH.out.fresh (Touch.drewN _ _ _), rfl, rfl, rfl, rfl, rfl, rfl⟩, by simp [Bmu, intOf]; omega⟩

set_option maxRecDepth 1000000 in
set_option maxHeartbeats 4000000 in
theorem bcase_wa2_11 {w : World} {size cap : Nat} {fail : Int} {k gl p bm : Nat} {wr : World} {u : Nat → Value} {j : Nat} {S : St} {l : List Pg} {g o len0 cap0 : Nat} {kind id xn : Int} {lg : Bool}
    (H : Brd w size cap fail k gl p bm wr u j S l g o len0 cap0 kind id xn lg) {K0 : Act → World → Prop} (hf0 : 0 ≤ fail) (hf1 : fail ≤ (S.ops : Int)) (hi0 : 0 ≤ id) (hi1 : (k : Int) ≤ id)  (hk : kind % 4 = 3) (hlg : lg = true) :
    Code.wp Try.prog body6 (BOut w size cap fail k gl p bm j g o len0 cap0 K0) (frame6 u) wr := by
  obtain ⟨u0, u1, u2, u3, u9, u11, u12, u13, u14, u15, u16, hj, l60, d0, d1, d2, d3, P, hkr, hsz⟩ := H
  conv => arg 2; whnf
  simp only [frame6, u0, u1, u2, u3, u9, u11, u12, u13, u14, u15, u16]
  clear u0 u1 u2 u3 u9 u11 u12 u13 u14 u15 u16
  have tX : Touch (fun _ => False) wr (wr.alloc (.cells #[.int .u8 kind, .int .i64 id, .int .i64 xn, .bool lg] 42)) := Touch.alloc _ _ _
  have PX := P.fresh tX
  have XA := Lib.hid (XB.new wr kind id xn lg)
  have hzn : ¬ fp S p bm wr.heap.size := fun h => by have := P.ltf _ h; omega
  have hgz : gl < wr.heap.size := P.ltg
  have hops := P.inv.ops
  have hlen := P.inv.len
  have hlk := P.kl
  have hkc : k ≤ 70 := by have := P.kc; omega
  have hws := P.bel.size
  have hpk := P.st.hc.2.2
  have hFS : S.fails = true := by simp [St.fails, P.e3]; omega
  have hIA : id ∉ S.m.map (·.1) := P.inv.absent (.inr (.inl (by rw [P.kl]; exact hi1)))
  have hi2 : ¬ id < (k : Int) := by omega
  subst hlg
  have MK := fun w => run_make22' (size + 1) (by omega) w
  have ewn : IntKind.i64.wrap ((size : Int) + 1) = (size : Int) + 1 := IntWalk.i64_in _ (by omega)
  rw [show ((size + 1 : Nat) : Int) = (size : Int) + 1 by omega] at MK
  have hvr : 0 ≤ IntKind.u8.wrap xn ∧ IntKind.u8.wrap xn < 256 := by rw [IntKind.wrap_u8]; omega
  obtain ⟨vv, hvv⟩ := Int.eq_ofNat_of_zero_le hvr.1
  have hvv : IntKind.u8.wrap xn = (vv : Int) := hvv
  clear hvr
  have tB : Touch (fun _ => False) (wr.alloc (.cells #[.int .u8 kind, .int .i64 id, .int .i64 xn, .bool true] 42)) ((wr.alloc (.cells #[.int .u8 kind, .int .i64 id, .int .i64 xn, .bool true] 42)).alloc (.cells (bytesOf (zeros (size + 1))) 5)) := Touch.alloc _ _ _
  have PW := Lib.hid (PX.fresh tB)
  have X0 := Lib.hid (XA.out.kept tB (fun h => h))
  have B0 : BB ((wr.alloc (.cells #[.int .u8 kind, .int .i64 id, .int .i64 xn, .bool true] 42)).alloc (.cells (bytesOf (zeros (size + 1))) 5)) (wr.heap.size + 1) (size + 1) (zeros (size + 1)) := by
    have := BB.new (wr.alloc (.cells #[.int .u8 kind, .int .i64 id, .int .i64 xn, .bool true] 42)) (size + 1)
    rwa [show (wr.alloc (.cells #[.int .u8 kind, .int .i64 id, .int .i64 xn, .bool true] 42)).heap.size = wr.heap.size + 1 by simp] at this
  have B0 := Lib.hid B0
  have hgb : ¬ fp S p bm (wr.heap.size + 1) := fun h => by have := P.ltf _ h; omega
  have HFS := Lib.hid hFS
  have HWS := Lib.hid hws
  clear P PX tX tB hFS XA
  go_wp2_with fail
  generalize hzx : wr.heap.size = zx at *
  clear hzx
  go_loopw [28] (fun kv wl => ∃ q1 : Nat, kv = .int .i64 q1 ∧ q1 ≤ size + 1 ∧ Touch (· = zx + 1) ((wr.alloc (.cells #[.int .u8 kind, .int .i64 id, .int .i64 xn, .bool true] 42)).alloc (.cells (bytesOf (zeros (size + 1))) 5)) wl ∧ ∃ cs, BB wl (zx + 1) (size + 1) cs ∧ ∀ q2, q2 < q1 → cs.getD q2 0 = (vv : Int)) (fun kv _ => size + 1 - (intOf kv).toNat)
  case atStart => exact ⟨0, rfl, Nat.zero_le _, Touch.refl _ _, _, B0.out, fun q2 h => by omega⟩
  case round =>
    obtain ⟨q1, rfl, hq1, t1, cs, bb, hcs⟩ := hrel
    have X1 := X0.out.kept t1 (by omega)
    by_cases hlt : q1 < size + 1
    · have c2 := X1.c2
      have M0 := bb.cell hlt
      have z0 := bb.fz q1
      have NB := Lib.hid (bb.set q1 (vv : Int))
      have HL := Lib.hid bb.1
      have HC := Lib.hid hcs
      have T1 := Lib.hid (t1.trans (Touch.cell1 wr (zx + 1) q1 (.int .u8 (vv : Int))))
      clear bb hcs t1 X1
      go_wp2_with fail
      go_roundw
      case rel =>
        refine ⟨q1 + 1, by go_num, by omega, T1.out, _, NB.out, fun q2 h => ?_⟩
        rw [List.getD_eq_getElem?_getD, List.getElem?_set]
        by_cases e : q1 = q2
        · rw [if_pos e, if_pos (by have := HL.out; omega)]; rfl
        · rw [if_neg e, ← List.getD_eq_getElem?_getD]; exact HC.out q2 (by omega)
      case measure => simp [intOf]; omega
    · obtain rfl : size + 1 = q1 := by omega
      have P1 := PW.out.poke (z := zx + 1) (by have := HWS.out; omega) hgb (by omega) t1
      have c1 := X1.c1
      have c2 := X1.c2
      have c3 := X1.c3
      have hbx : ∀ q2 : Nat, q2 < size + 1 → wr.cell? ⟨zx + 1, q2, Option.none⟩ = some (.int .u8 (vv : Int)) := fun q2 h => by rw [bb.cell h, hcs q2 h]
      have CA := Lib.hid (P1.writeA _ hIA (some ⟨zx + 1, 0, Option.none⟩) (size + 1) (size + 1))
      have BBH := Lib.hid bb
      have XH := Lib.hid X1
      clear P1 t1 bb hcs X1 hbx
      go_wp2_with fail
      refine CA.out.mono ?_
      rintro e w6 ⟨rfl, P6, t6⟩
      have PH6 := Lib.hid P6
      have X6 := Lib.hid (XH.out.kept t6 hzn)
      have B6 := Lib.hid (BBH.out.kept t6 hgb)
      clear CA t6 P6 BBH XH c1 c2 c3
      go_wp2_with fail
      go_loopw [30] (fun kv wl => ∃ q1 : Nat, kv = .int .i64 q1 ∧ q1 ≤ size + 1 ∧ Touch (· = zx + 1) w6 wl ∧ ∃ cs, BB wl (zx + 1) (size + 1) cs) (fun kv _ => size + 1 - (intOf kv).toNat)
      case atStart => exact ⟨0, rfl, Nat.zero_le _, Touch.refl _ _, _, B6.out⟩
      case round =>
        obtain ⟨q1, rfl, hq1, t1, cs, bb⟩ := hrel
        by_cases hlt : q1 < size + 1
        · have M0 := bb.cell hlt
          have z0 := bb.fz q1
          have NB := Lib.hid (bb.set q1 (IntKind.u8.wrap (cs.getD q1 0 + 1)))
          have T1 := Lib.hid (t1.trans (Touch.cell1 wr (zx + 1) q1 (.int .u8 (IntKind.u8.wrap (cs.getD q1 0 + 1)))))
          generalize cs.getD q1 0 = zz at *
          clear bb t1
          go_wp2_with fail
          go_roundw
          case rel => exact ⟨q1 + 1, by go_num, by omega, T1.out, _, NB.out⟩
          case measure => simp [intOf]; omega
        · obtain rfl : size + 1 = q1 := by omega
          have P7 := PH6.out.poke (z := zx + 1) (by have := HWS.out; omega) (fun h => hgb h) (by omega) t1
          have X7 := X6.out.kept t1 (by omega)
          have c1 := X7.c1
          have c2 := X7.c2
          have c3 := X7.c3
          clear t1 bb PH6 X6 B6 X7
          have PU : ((S).m.length : Int) = (S.m.length : Int) := rfl
          have PP : ((S).peak : Int) = (S.peak : Int) := rfl
          have PO : ((S).ops : Int) = (S.ops : Int) := rfl
          have PF : (S).failed = S.failed := rfl
          have HU := used_any P7.st
          have HP := peak_any P7.st
          have HO := ops_any P7.st (P7.small (by omega))
          have HD := failed_any P7.st
          rw [PU] at HU
          rw [PP] at HP
          rw [PO] at HO
          rw [PF] at HD
          have HU := Lib.hid HU
          have HP := Lib.hid HP
          have HO := Lib.hid HO
          have HD := Lib.hid HD
          have PH := Lib.hid P7
          have QU := Lib.hid PU
          have QP := Lib.hid PP
          have QO := Lib.hid PO
          have QF := Lib.hid PF
          clear PU PP PO PF
          go_wp2_with fail
          refine HU.out.mono ?_
          rintro e w8 ⟨rfl, rfl⟩
          go_wp2_with fail
          refine HP.out.mono ?_
          rintro e w8 ⟨rfl, rfl⟩
          go_wp2_with fail
          refine HO.out.mono ?_
          rintro e w8 ⟨rfl, rfl⟩
          go_wp2_with fail
          refine HD.out.mono ?_
          rintro e w8 ⟨rfl, nd, rfl⟩
          clear HU HP HO HD
          go_wp2_with fail
          exact ⟨WB.intro rfl ⟨j + 1, S, l, by first | rfl | exact congrArg (Value.int .i64) QU.out.symm, by first | rfl | exact congrArg (Value.int .i64) QP.out.symm, by first | rfl | exact congrArg (Value.int .i64) QO.out.symm, by first | rfl | exact congrArg Value.bool QF.out.symm, by go_num, by omega, PH.out.fresh (Touch.drewN _ _ _), rfl, rfl, rfl, rfl, rfl, rfl⟩, by simp [Bmu, intOf]; omega⟩

set_option maxRecDepth 1000000 in
set_option maxHeartbeats 4000000 in
theorem bcase_wa2_20 {w : World} {size cap : Nat} {fail : Int} {k gl p bm : Nat} {wr : World} {u : Nat → Value} {j : Nat} {S : St} {l : List Pg} {g o len0 cap0 : Nat} {kind id xn : Int} {lg : Bool}
    (H : Brd w size cap fail k gl p bm wr u j S l g o len0 cap0 kind id xn lg) {K0 : Act → World → Prop} (hf0 : 0 ≤ fail) (hf1 : fail ≤ (S.ops : Int)) {q v : Nat} (hi0 : id = (q : Int)) (hi1 : l[q]? = some ⟨false, v⟩)  (hk : kind % 4 = 3) (hlg : lg = false) :
    Code.wp Try.prog body6 (BOut w size cap fail k gl p bm j g o len0 cap0 K0) (frame6 u) wr := by
  obtain ⟨u0, u1, u2, u3, u9, u11, u12, u13, u14, u15, u16, hj, l60, d0, d1, d2, d3, P, hkr, hsz⟩ := H
  conv => arg 2; whnf
  simp only [frame6, u0, u1, u2, u3, u9, u11, u12, u13, u14, u15, u16]
  clear u0 u1 u2 u3 u9 u11 u12 u13 u14 u15 u16
  have tX : Touch (fun _ => False) wr (wr.alloc (.cells #[.int .u8 kind, .int .i64 id, .int .i64 xn, .bool lg] 42)) := Touch.alloc _ _ _
  have PX := P.fresh tX
  have XA := Lib.hid (XB.new wr kind id xn lg)
  have hzn : ¬ fp S p bm wr.heap.size := fun h => by have := P.ltf _ h; omega
  have hgz : gl < wr.heap.size := P.ltg
  have hops := P.inv.ops
  have hlen := P.inv.len
  have hlk := P.kl
  have hkc : k ≤ 70 := by have := P.kc; omega
  have hws := P.bel.size
  have hpk := P.st.hc.2.2
  have hFS : S.fails = true := by simp [St.fails, P.e3]; omega
  subst hi0
  have hql : q < l.length := (List.getElem?_eq_some_iff.1 hi1).1
  have hqk : q < k := by rw [← P.kl]; exact hql
  have MX : (wr.alloc (.cells #[.int .u8 kind, .int .i64 (q : Int), .int .i64 xn, .bool lg] 42)).cell? ⟨gl, q * 2, Option.none⟩ = some (.bool false) := PX.row.cell hi1 0 (by decide)
  have hIA : (q : Int) ∉ S.m.map (·.1) := P.inv.absent (.inr (.inr ⟨q, v, rfl, hi1⟩))
  subst hlg
  have MK := fun w => run_make22' (size) (by omega) w
  have ewn : IntKind.i64.wrap ((size : Int) + 1) = (size : Int) + 1 := IntWalk.i64_in _ (by omega)
  have hvr : 0 ≤ IntKind.u8.wrap xn ∧ IntKind.u8.wrap xn < 256 := by rw [IntKind.wrap_u8]; omega
  obtain ⟨vv, hvv⟩ := Int.eq_ofNat_of_zero_le hvr.1
  have hvv : IntKind.u8.wrap xn = (vv : Int) := hvv
  clear hvr
  have tB : Touch (fun _ => False) (wr.alloc (.cells #[.int .u8 kind, .int .i64 (q : Int), .int .i64 xn, .bool false] 42)) ((wr.alloc (.cells #[.int .u8 kind, .int .i64 (q : Int), .int .i64 xn, .bool false] 42)).alloc (.cells (bytesOf (zeros (size))) 5)) := Touch.alloc _ _ _
  have PW := Lib.hid (PX.fresh tB)
  have X0 := Lib.hid (XA.out.kept tB (fun h => h))
  have B0 : BB ((wr.alloc (.cells #[.int .u8 kind, .int .i64 (q : Int), .int .i64 xn, .bool false] 42)).alloc (.cells (bytesOf (zeros (size))) 5)) (wr.heap.size + 1) (size) (zeros (size)) := by
    have := BB.new (wr.alloc (.cells #[.int .u8 kind, .int .i64 (q : Int), .int .i64 xn, .bool false] 42)) (size)
    rwa [show (wr.alloc (.cells #[.int .u8 kind, .int .i64 (q : Int), .int .i64 xn, .bool false] 42)).heap.size = wr.heap.size + 1 by simp] at this
  have B0 := Lib.hid B0
  have hgb : ¬ fp S p bm (wr.heap.size + 1) := fun h => by have := P.ltf _ h; omega
  have HFS := Lib.hid hFS
  have HWS := Lib.hid hws
  clear P PX tX tB hFS XA
  go_wp2_with fail
  generalize hzx : wr.heap.size = zx at *
  clear hzx
  go_loopw [28] (fun kv wl => ∃ q1 : Nat, kv = .int .i64 q1 ∧ q1 ≤ size ∧ Touch (· = zx + 1) ((wr.alloc (.cells #[.int .u8 kind, .int .i64 (q : Int), .int .i64 xn, .bool false] 42)).alloc (.cells (bytesOf (zeros (size))) 5)) wl ∧ ∃ cs, BB wl (zx + 1) (size) cs ∧ ∀ q2, q2 < q1 → cs.getD q2 0 = (vv : Int)) (fun kv _ => size - (intOf kv).toNat)
  case atStart => exact ⟨0, rfl, Nat.zero_le _, Touch.refl _ _, _, B0.out, fun q2 h => by omega⟩
  case round =>
    obtain ⟨q1, rfl, hq1, t1, cs, bb, hcs⟩ := hrel
    have X1 := X0.out.kept t1 (by omega)
    by_cases hlt : q1 < size
    · have c2 := X1.c2
      have M0 := bb.cell hlt
      have z0 := bb.fz q1
      have NB := Lib.hid (bb.set q1 (vv : Int))
      have HL := Lib.hid bb.1
      have HC := Lib.hid hcs
      have T1 := Lib.hid (t1.trans (Touch.cell1 wr (zx + 1) q1 (.int .u8 (vv : Int))))
      clear bb hcs t1 X1
      go_wp2_with fail
      go_roundw
      case rel =>
        refine ⟨q1 + 1, by go_num, by omega, T1.out, _, NB.out, fun q2 h => ?_⟩
        rw [List.getD_eq_getElem?_getD, List.getElem?_set]
        by_cases e : q1 = q2
        · rw [if_pos e, if_pos (by have := HL.out; omega)]; rfl
        · rw [if_neg e, ← List.getD_eq_getElem?_getD]; exact HC.out q2 (by omega)
      case measure => simp [intOf]; omega
    · obtain rfl : size = q1 := by omega
      have P1 := PW.out.poke (z := zx + 1) (by have := HWS.out; omega) hgb (by omega) t1
      have c1 := X1.c1
      have c2 := X1.c2
      have c3 := X1.c3
      have hbx : ∀ q2 : Nat, q2 < size → wr.cell? ⟨zx + 1, q2, Option.none⟩ = some (.int .u8 (vv : Int)) := fun q2 h => by rw [bb.cell h, hcs q2 h]
      have CA := Lib.hid (P1.writeA _ hIA (some ⟨zx + 1, 0, Option.none⟩) (size) (size))
      have BBH := Lib.hid bb
      have XH := Lib.hid X1
      clear P1 t1 bb hcs X1 hbx
      go_wp2_with fail
      refine CA.out.mono ?_
      rintro e w6 ⟨rfl, P6, t6⟩
      have PH6 := Lib.hid P6
      have X6 := Lib.hid (XH.out.kept t6 hzn)
      have B6 := Lib.hid (BBH.out.kept t6 hgb)
      clear CA t6 P6 BBH XH c1 c2 c3
      go_wp2_with fail
      go_loopw [30] (fun kv wl => ∃ q1 : Nat, kv = .int .i64 q1 ∧ q1 ≤ size ∧ Touch (· = zx + 1) w6 wl ∧ ∃ cs, BB wl (zx + 1) (size) cs) (fun kv _ => size - (intOf kv).toNat)
      case atStart => exact ⟨0, rfl, Nat.zero_le _, Touch.refl _ _, _, B6.out⟩
      case round =>
        obtain ⟨q1, rfl, hq1, t1, cs, bb⟩ := hrel
        by_cases hlt : q1 < size
        · have M0 := bb.cell hlt
          have z0 := bb.fz q1
          have NB := Lib.hid (bb.set q1 (IntKind.u8.wrap (cs.getD q1 0 + 1)))
          have T1 := Lib.hid (t1.trans (Touch.cell1 wr (zx + 1) q1 (.int .u8 (IntKind.u8.wrap (cs.getD q1 0 + 1)))))
          generalize cs.getD q1 0 = zz at *
          clear bb t1
          go_wp2_with fail
          go_roundw
          case rel => exact ⟨q1 + 1, by go_num, by omega, T1.out, _, NB.out⟩
          case measure => simp [intOf]; omega
        · obtain rfl : size = q1 := by omega
          have P7 := PH6.out.poke (z := zx + 1) (by have := HWS.out; omega) (fun h => hgb h) (by omega) t1
          have X7 := X6.out.kept t1 (by omega)
          have c1 := X7.c1
          have c2 := X7.c2
          have c3 := X7.c3
          clear t1 bb PH6 X6 B6 X7
          have PU : ((S).m.length : Int) = (S.m.length : Int) := rfl
          have PP : ((S).peak : Int) = (S.peak : Int) := rfl
          have PO : ((S).ops : Int) = (S.ops : Int) := rfl
          have PF : (S).failed = S.failed := rfl
          have HU := used_any P7.st
          have HP := peak_any P7.st
          have HO := ops_any P7.st (P7.small (by omega))
          have HD := failed_any P7.st
          rw [PU] at HU
          rw [PP] at HP
          rw [PO] at HO
          rw [PF] at HD
          have HU := Lib.hid HU
          have HP := Lib.hid HP
          have HO := Lib.hid HO
          have HD := Lib.hid HD
          have PH := Lib.hid P7
          have QU := Lib.hid PU
          have QP := Lib.hid PP
          have QO := Lib.hid PO
          have QF := Lib.hid PF
          clear PU PP PO PF
          go_wp2_with fail
          refine HU.out.mono ?_
          rintro e w8 ⟨rfl, rfl⟩
          go_wp2_with fail
          refine HP.out.mono ?_
          rintro e w8 ⟨rfl, rfl⟩
          go_wp2_with fail
          refine HO.out.mono ?_
          rintro e w8 ⟨rfl, rfl⟩
          go_wp2_with fail
          refine HD.out.mono ?_
          rintro e w8 ⟨rfl, nd, rfl⟩
          clear HU HP HO HD
          go_wp2_with fail
          exact ⟨WB.intro rfl ⟨j + 1, S, l, by first | rfl | exact congrArg (Value.int .i64) QU.out.symm, by first | rfl | exact congrArg (Value.int .i64) QP.out.symm, by first | rfl | exact congrArg (Value.int .i64) QO.out.symm, by first | rfl | exact congrArg Value.bool QF.out.symm, by go_num, by omega, PH.out.fresh (Touch.drewN _ _ _), rfl, rfl, rfl, rfl, rfl, rfl⟩, by simp [Bmu, intOf]; omega⟩

set_option maxRecDepth 1000000 in
set_option maxHeartbeats 4000000 in
theorem bcase_wa2_21 {w : World} {size cap : Nat} {fail : Int} {k gl p bm : Nat} {wr : World} {u : Nat → Value} {j : Nat} {S : St} {l : List Pg} {g o len0 cap0 : Nat} {kind id xn : Int} {lg : Bool}
    (H : Brd w size cap fail k gl p bm wr u j S l g o len0 cap0 kind id xn lg) {K0 : Act → World → Prop} (hf0 : 0 ≤ fail) (hf1 : fail ≤ (S.ops : Int)) {q v : Nat} (hi0 : id = (q : Int)) (hi1 : l[q]? = some ⟨false, v⟩)  (hk : kind % 4 = 3) (hlg : lg = true) :
    Code.wp Try.prog body6 (BOut w size cap fail k gl p bm j g o len0 cap0 K0) (frame6 u) wr := by
  obtain ⟨u0, u1, u2, u3, u9, u11, u12, u13, u14, u15, u16, hj, l60, d0, d1, d2, d3, P, hkr, hsz⟩ := H
  conv => arg 2; whnf
  simp only [frame6, u0, u1, u2, u3, u9, u11, u12, u13, u14, u15, u16]
  clear u0 u1 u2 u3 u9 u11 u12 u13 u14 u15 u16
  have tX : Touch (fun _ => False) wr (wr.alloc (.cells #[.int .u8 kind, .int .i64 id, .int .i64 xn, .bool lg] 42)) := Touch.alloc _ _ _
  have PX := P.fresh tX
  have XA := Lib.hid (XB.new wr kind id xn lg)
  have hzn : ¬ fp S p bm wr.heap.size := fun h => by have := P.ltf _ h; omega
  have hgz : gl < wr.heap.size := P.ltg
  have hops := P.inv.ops
  have hlen := P.inv.len
  have hlk := P.kl
  have hkc : k ≤ 70 := by have := P.kc; omega
  have hws := P.bel.size
  have hpk := P.st.hc.2.2
  have hFS : S.fails = true := by simp [St.fails, P.e3]; omega
  subst hi0
  have hql : q < l.length := (List.getElem?_eq_some_iff.1 hi1).1
  have hqk : q < k := by rw [← P.kl]; exact hql
  have MX : (wr.alloc (.cells #[.int .u8 kind, .int .i64 (q : Int), .int .i64 xn, .bool lg] 42)).cell? ⟨gl, q * 2, Option.none⟩ = some (.bool false) := PX.row.cell hi1 0 (by decide)
  have hIA : (q : Int) ∉ S.m.map (·.1) := P.inv.absent (.inr (.inr ⟨q, v, rfl, hi1⟩))
  subst hlg
  have MK := fun w => run_make22' (size + 1) (by omega) w
  have ewn : IntKind.i64.wrap ((size : Int) + 1) = (size : Int) + 1 := IntWalk.i64_in _ (by omega)
  rw [show ((size + 1 : Nat) : Int) = (size : Int) + 1 by omega] at MK
  have hvr : 0 ≤ IntKind.u8.wrap xn ∧ IntKind.u8.wrap xn < 256 := by rw [IntKind.wrap_u8]; omega
  obtain ⟨vv, hvv⟩ := Int.eq_ofNat_of_zero_le hvr.1
  have hvv : IntKind.u8.wrap xn = (vv : Int) := hvv
  clear hvr
  have tB : Touch (fun _ => False) (wr.alloc (.cells #[.int .u8 kind, .int .i64 (q : Int), .int .i64 xn, .bool true] 42)) ((wr.alloc (.cells #[.int .u8 kind, .int .i64 (q : Int), .int .i64 xn, .bool true] 42)).alloc (.cells (bytesOf (zeros (size + 1))) 5)) := Touch.alloc _ _ _
  have PW := Lib.hid (PX.fresh tB)
  have X0 := Lib.hid (XA.out.kept tB (fun h => h))
  have B0 : BB ((wr.alloc (.cells #[.int .u8 kind, .int .i64 (q : Int), .int .i64 xn, .bool true] 42)).alloc (.cells (bytesOf (zeros (size + 1))) 5)) (wr.heap.size + 1) (size + 1) (zeros (size + 1)) := by
    have := BB.new (wr.alloc (.cells #[.int .u8 kind, .int .i64 (q : Int), .int .i64 xn, .bool true] 42)) (size + 1)
    rwa [show (wr.alloc (.cells #[.int .u8 kind, .int .i64 (q : Int), .int .i64 xn, .bool true] 42)).heap.size = wr.heap.size + 1 by simp] at this
  have B0 := Lib.hid B0
  have hgb : ¬ fp S p bm (wr.heap.size + 1) := fun h => by have := P.ltf _ h; omega
  have HFS := Lib.hid hFS
  have HWS := Lib.hid hws
  clear P PX tX tB hFS XA
  go_wp2_with fail
  generalize hzx : wr.heap.size = zx at *
  clear hzx
  go_loopw [28] (fun kv wl => ∃ q1 : Nat, kv = .int .i64 q1 ∧ q1 ≤ size + 1 ∧ Touch (· = zx + 1) ((wr.alloc (.cells #[.int .u8 kind, .int .i64 (q : Int), .int .i64 xn, .bool true] 42)).alloc (.cells (bytesOf (zeros (size + 1))) 5)) wl ∧ ∃ cs, BB wl (zx + 1) (size + 1) cs ∧ ∀ q2, q2 < q1 → cs.getD q2 0 = (vv : Int)) (fun kv _ => size + 1 - (intOf kv).toNat)
  case atStart => exact ⟨0, rfl, Nat.zero_le _, Touch.refl _ _, _, B0.out, fun q2 h => by omega⟩
  case round =>
    obtain ⟨q1, rfl, hq1, t1, cs, bb, hcs⟩ := hrel
    have X1 := X0.out.kept t1 (by omega)
    by_cases hlt : q1 < size + 1
    · have c2 := X1.c2
      have M0 := bb.cell hlt
      have z0 := bb.fz q1
      have NB := Lib.hid (bb.set q1 (vv : Int))
      have HL := Lib.hid bb.1
      have HC := Lib.hid hcs
      have T1 := Lib.hid (t1.trans (Touch.cell1 wr (zx + 1) q1 (.int .u8 (vv : Int))))
      clear bb hcs t1 X1
      go_wp2_with fail
      go_roundw
      case rel =>
        refine ⟨q1 + 1, by go_num, by omega, T1.out, _, NB.out, fun q2 h => ?_⟩
        rw [List.getD_eq_getElem?_getD, List.getElem?_set]
        by_cases e : q1 = q2
        · rw [if_pos e, if_pos (by have := HL.out; omega)]; rfl
        · rw [if_neg e, ← List.getD_eq_getElem?_getD]; exact HC.out q2 (by omega)
      case measure => simp [intOf]; omega
    · obtain rfl : size + 1 = q1 := by omega
      have P1 := PW.out.poke (z := zx + 1) (by have := HWS.out; omega) hgb (by omega) t1
      have c1 := X1.c1
      have c2 := X1.c2
      have c3 := X1.c3
      have hbx : ∀ q2 : Nat, q2 < size + 1 → wr.cell? ⟨zx + 1, q2, Option.none⟩ = some (.int .u8 (vv : Int)) := fun q2 h => by rw [bb.cell h, hcs q2 h]
      have CA := Lib.hid (P1.writeA _ hIA (some ⟨zx + 1, 0, Option.none⟩) (size + 1) (size + 1))
      have BBH := Lib.hid bb
      have XH := Lib.hid X1
      clear P1 t1 bb hcs X1 hbx
      go_wp2_with fail
      refine CA.out.mono ?_
      rintro e w6 ⟨rfl, P6, t6⟩
      have PH6 := Lib.hid P6
      have X6 := Lib.hid (XH.out.kept t6 hzn)
      have B6 := Lib.hid (BBH.out.kept t6 hgb)
      clear CA t6 P6 BBH XH c1 c2 c3
      go_wp2_with fail
      go_loopw [30] (fun kv wl => ∃ q1 : Nat, kv = .int .i64 q1 ∧ q1 ≤ size + 1 ∧ Touch (· = zx + 1) w6 wl ∧ ∃ cs, BB wl (zx + 1) (size + 1) cs) (fun kv _ => size + 1 - (intOf kv).toNat)
      case atStart => exact ⟨0, rfl, Nat.zero_le _, Touch.refl _ _, _, B6.out⟩
      case round =>
        obtain ⟨q1, rfl, hq1, t1, cs, bb⟩ := hrel
        by_cases hlt : q1 < size + 1
        · have M0 := bb.cell hlt
          have z0 := bb.fz q1
          have NB := Lib.hid (bb.set q1 (IntKind.u8.wrap (cs.getD q1 0 + 1)))
          have T1 := Lib.hid (t1.trans (Touch.cell1 wr (zx + 1) q1 (.int .u8 (IntKind.u8.wrap (cs.getD q1 0 + 1)))))
          generalize cs.getD q1 0 = zz at *
          clear bb t1
          go_wp2_with fail
          go_roundw
          case rel => exact ⟨q1 + 1, by go_num, by omega, T1.out, _, NB.out⟩
          case measure => simp [intOf]; omega
        · obtain rfl : size + 1 = q1 := by omega
          have P7 := PH6.out.poke (z := zx + 1) (by have := HWS.out; omega) (fun h => hgb h) (by omega) t1
          have X7 := X6.out.kept t1 (by omega)
          have c1 := X7.c1
          have c2 := X7.c2
          have c3 := X7.c3
          clear t1 bb PH6 X6 B6 X7
          have PU : ((S).m.length : Int) = (S.m.length : Int) := rfl
          have PP : ((S).peak : Int) = (S.peak : Int) := rfl
          have PO : ((S).ops : Int) = (S.ops : Int) := rfl
          have PF : (S).failed = S.failed := rfl
          have HU := used_any P7.st
          have HP := peak_any P7.st
          have HO := ops_any P7.st (P7.small (by omega))
          have HD := failed_any P7.st
          rw [PU] at HU
          rw [PP] at HP
          rw [PO] at HO
          rw [PF] at HD
          have HU := Lib.hid HU
          have HP := Lib.hid HP
          have HO := Lib.hid HO
          have HD := Lib.hid HD
          have PH := Lib.hid P7
          have QU := Lib.hid PU
          have QP := Lib.hid PP
          have QO := Lib.hid PO
          have QF := Lib.hid PF
          clear PU PP PO PF
          go_wp2_with fail
          refine HU.out.mono ?_
          rintro e w8 ⟨rfl, rfl⟩
          go_wp2_with fail
          refine HP.out.mono ?_
          rintro e w8 ⟨rfl, rfl⟩
          go_wp2_with fail
          refine HO.out.mono ?_
          rintro e w8 ⟨rfl, rfl⟩
          go_wp2_with fail
          refine HD.out.mono ?_
          rintro e w8 ⟨rfl, nd, rfl⟩
          clear HU HP HO HD
          go_wp2_with fail
          exact ⟨WB.intro rfl ⟨j + 1, S, l, by first | rfl | exact congrArg (Value.int .i64) QU.out.symm, by first | rfl | exact congrArg (Value.int .i64) QP.out.symm, by first | rfl | exact congrArg (Value.int .i64) QO.out.symm, by first | rfl | exact congrArg Value.bool QF.out.symm, by go_num, by omega, PH.out.fresh (Touch.drewN _ _ _), rfl, rfl, rfl, rfl, rfl, rfl⟩, by simp [Bmu, intOf]; omega⟩
end Go.Proofs.Ytaeicondmiikaaa
