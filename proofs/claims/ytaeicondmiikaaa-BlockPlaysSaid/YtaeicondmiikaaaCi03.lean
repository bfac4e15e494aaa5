/- BlockPlays: a block had. -/
import Derived.Test.YtaeicondmiikaaaCc
namespace Go.Proofs.Ytaeicondmiikaaa
open Go.RowKit Go.Maps
set_option linter.unusedSimpArgs false
set_option linter.unusedVariables false

set_option maxRecDepth 1000000 in
set_option maxHeartbeats 4000000 in
theorem bcase_ao0_3t1 {w : World} {size cap : Nat} {fail : Int} {k gl p bm : Nat} {wr : World} {u : Nat → Value} {j : Nat} {S : St} {l : List Pg} {g o len0 cap0 : Nat} {kind id xn : Int} {lg : Bool}
    (H : Brd w size cap fail k gl p bm wr u j S l g o len0 cap0 kind id xn lg) {K0 : Act → World → Prop} (hf0 : fail < 0) {q v : Nat} (hi0 : id = (q : Int)) (hi1 : l[q]? = some ⟨true, v⟩) (hfd : S.failed = true) (hk : kind % 4 = 0) (hc : ¬ S.m.length = cap) (hbig : S.peak < S.m.length + 1) :
    Code.wp Try.prog body6 (BOut w size cap fail k gl p bm j g o len0 cap0 K0) (frame6 u) wr := by
  obtain ⟨u0, u1, u2, u3, u9, u11, u12, u13, u14, u15, u16, hj, l60, d0, d1, d2, d3, P, hkr, hsz⟩ := H
  conv => arg 2; whnf
  simp only [frame6, u0, u1, u2, u3, u9, u11, u12, u13, u14, u15, u16, hfd]
  clear u0 u1 u2 u3 u9 u11 u12 u13 u14 u15 u16
  have tX : Touch (fun _ => False) wr (wr.alloc (.cells #[.int .u8 kind, .int .i64 id, .int .i64 xn, .bool lg] 42)) := Touch.alloc _ _ _
  have PX := P.fresh tX
  have XA := Lib.hid (XB.new wr kind id xn lg)
  have hzn : ¬ fp S p bm wr.heap.size := fun h => by have := P.ltf _ h; omega
  have hgz : gl < wr.heap.size := P.ltg
  have hops := P.inv.ops
  have hlen := P.inv.len
  have hlk := P.kl
  have hkc : k ≤ 70 := by have := P.kc; omega
  have hws := P.bel.size
  have hpk := P.st.hc.2.2
  have hFS : S.fails = false := by simp [St.fails, P.e3]; omega
  have hf2 : ¬ 0 ≤ fail := by omega
  subst hi0
  have hql : q < l.length := (List.getElem?_eq_some_iff.1 hi1).1
  have hqk : q < k := by rw [← P.kl]; exact hql
  have MX : (wr.alloc (.cells #[.int .u8 kind, .int .i64 (q : Int), .int .i64 xn, .bool lg] 42)).cell? ⟨gl, q * 2, Option.none⟩ = some (.bool true) := PX.row.cell hi1 0 (by decide)
  have hpk2 : (S.peak : Int) < (S.m.length : Int) + 1 := by omega
  have hcap : ¬ (S.m.length : Int) = (cap : Int) := by omega
  have CA := Lib.hid (PX.allocOk (by omega) hFS hc)
  have HFS := Lib.hid hFS
  clear P PX tX hFS
  go_wp2_with fail
  refine CA.out.mono ?_
  rintro e w6 ⟨id', blk, rfl, P6, t6, hu, v', hfree⟩
  clear CA XA t6
  have PH := Lib.hid P6
  have HU := Lib.hid hu
  have HFR := Lib.hid hfree
  clear P6 hu hfree
  have hidl : id' < l.length := (List.getElem?_eq_some_iff.1 HFR.out).1
  have hidk : id' < k := by omega
  go_wp2_with fail
  go_loopw [22] (fun wv wl => ∃ q' : Nat, wv = .int .i64 q' ∧ q' ≤ id' ∧ wl = w6) (fun wv _ => id' - (intOf wv).toNat)
  case atStart => exact ⟨0, rfl, Nat.zero_le _, rfl⟩
  case round =>
    obtain ⟨q', rfl, hq', rfl⟩ := hrel
    have hqk' : q' < k := by omega
    by_cases hlt : q' < id'
    · obtain ⟨v2, hv2⟩ := HU.out q' hlt
      have M0 : _ = some (Value.bool true) := PH.out.row.cell hv2 0 (by decide)
      rw [show q' * 2 + 0 = q' * 2 from rfl] at M0
      clear hv2
      go_wp2_with fail
      go_roundw
      case rel => exact ⟨q' + 1, by go_num, by omega, trivial⟩
      case measure => simp [intOf]; omega
    · obtain rfl : q' = id' := by omega
      have r1 := PH.out.row.stored HFR.out (f := 0) (by decide) (u := .bool true) (y := ⟨true, v'⟩) rfl
      have r2 := r1.stored (set_same hidl) (f := 1) (by decide) (u := .int .u8 ((0 : Nat) : Int)) (y := ⟨true, 0⟩) rfl
      rw [List.set_set] at r2
      have M0 : _ = some (Value.bool false) := PH.out.row.cell HFR.out 0 (by decide)
      have M1 : _ = some (Value.int .u8 (v' : Int)) := PH.out.row.cell HFR.out 1 (by decide)
      rw [show q' * 2 + 0 = q' * 2 from rfl] at M0 r2
      have z0 := PH.out.row.fz
      have z1 := r1.fz
      rw [show q' * 2 + 0 = q' * 2 from rfl] at z1
      have P9 := PH.out.rowed r2 ((Touch.cell1 _ gl _ _).trans (Touch.cell1 _ gl _ _))
      clear PH r1 r2
      have PU : ((S.did.took q' blk).m.length : Int) = (S.m.length : Int) + 1 := by show ((S.m ++ [_]).length : Int) = _; simp
      have PP : ((S.did.took q' blk).peak : Int) = (S.m.length : Int) + 1 := by show ((max S.peak (S.m.length + 1) : Nat) : Int) = _; omega
      have PO : ((S.did.took q' blk).ops : Int) = (S.ops : Int) + 1 := by show ((S.ops + 1 : Nat) : Int) = _; omega
      have PF : (S.did.took q' blk).failed = true := by show (S.failed || S.fails) = _; rw [hfd, HFS.out]; rfl
      have HU := used_any P9.st
      have HP := peak_any P9.st
      have HO := ops_any P9.st (P9.small (by omega))
      have HD := failed_any P9.st
      rw [PU] at HU
      rw [PP] at HP
      rw [PO] at HO
      rw [PF] at HD
      have HU := Lib.hid HU
      have HP := Lib.hid HP
      have HO := Lib.hid HO
      have HD := Lib.hid HD
      have PH := Lib.hid P9
      have QU := Lib.hid PU
      have QP := Lib.hid PP
      have QO := Lib.hid PO
      have QF := Lib.hid PF
      clear PU PP PO PF
      go_wp2_with fail
      refine HU.out.mono ?_
      rintro e w8 ⟨rfl, rfl⟩
      go_wp2_with fail
      refine HP.out.mono ?_
      rintro e w8 ⟨rfl, rfl⟩
      go_wp2_with fail
      refine HO.out.mono ?_
      rintro e w8 ⟨rfl, rfl⟩
      go_wp2_with fail
      refine HD.out.mono ?_
      rintro e w8 ⟨rfl, nd, rfl⟩
      clear HU HP HO HD
      go_wp2_with fail
      exact ⟨WB.intro rfl ⟨j + 1, S.did.took q' blk, l.set q' ⟨true, 0⟩, by first | rfl | exact congrArg (Value.int .i64) QU.out.symm, by first | rfl | exact congrArg (Value.int .i64) QP.out.symm, by first | rfl | exact congrArg (Value.int .i64) QO.out.symm, by first | rfl | exact congrArg Value.bool QF.out.symm, by go_num, by omega, PH.out.fresh (Touch.drewN _ _ _), rfl, rfl, rfl, rfl, rfl, rfl⟩, by simp [Bmu, intOf]; omega⟩

set_option maxRecDepth 1000000 in
set_option maxHeartbeats 4000000 in
theorem bcase_ao0_3t0 {w : World} {size cap : Nat} {fail : Int} {k gl p bm : Nat} {wr : World} {u : Nat → Value} {j : Nat} {S : St} {l : List Pg} {g o len0 cap0 : Nat} {kind id xn : Int} {lg : Bool}
    (H : Brd w size cap fail k gl p bm wr u j S l g o len0 cap0 kind id xn lg) {K0 : Act → World → Prop} (hf0 : fail < 0) {q v : Nat} (hi0 : id = (q : Int)) (hi1 : l[q]? = some ⟨true, v⟩) (hfd : S.failed = true) (hk : kind % 4 = 0) (hc : ¬ S.m.length = cap) (hbig : ¬ S.peak < S.m.length + 1) :
    Code.wp Try.prog body6 (BOut w size cap fail k gl p bm j g o len0 cap0 K0) (frame6 u) wr := by
  obtain ⟨u0, u1, u2, u3, u9, u11, u12, u13, u14, u15, u16, hj, l60, d0, d1, d2, d3, P, hkr, hsz⟩ := H
  conv => arg 2; whnf
  simp only [frame6, u0, u1, u2, u3, u9, u11, u12, u13, u14, u15, u16, hfd]
  clear u0 u1 u2 u3 u9 u11 u12 u13 u14 u15 u16
  have tX : Touch (fun _ => False) wr (wr.alloc (.cells #[.int .u8 kind, .int .i64 id, .int .i64 xn, .bool lg] 42)) := Touch.alloc _ _ _
  have PX := P.fresh tX
  have XA := Lib.hid (XB.new wr kind id xn lg)
  have hzn : ¬ fp S p bm wr.heap.size := fun h => by have := P.ltf _ h; omega
  have hgz : gl < wr.heap.size := P.ltg
  have hops := P.inv.ops
  have hlen := P.inv.len
  have hlk := P.kl
  have hkc : k ≤ 70 := by have := P.kc; omega
  have hws := P.bel.size
  have hpk := P.st.hc.2.2
  have hFS : S.fails = false := by simp [St.fails, P.e3]; omega
  have hf2 : ¬ 0 ≤ fail := by omega
  subst hi0
  have hql : q < l.length := (List.getElem?_eq_some_iff.1 hi1).1
  have hqk : q < k := by rw [← P.kl]; exact hql
  have MX : (wr.alloc (.cells #[.int .u8 kind, .int .i64 (q : Int), .int .i64 xn, .bool lg] 42)).cell? ⟨gl, q * 2, Option.none⟩ = some (.bool true) := PX.row.cell hi1 0 (by decide)
  have hpk2 : (S.m.length : Int) + 1 ≤ (S.peak : Int) := by omega
  have hcap : ¬ (S.m.length : Int) = (cap : Int) := by omega
  have CA := Lib.hid (PX.allocOk (by omega) hFS hc)
  have HFS := Lib.hid hFS
  clear P PX tX hFS
  go_wp2_with fail
  refine CA.out.mono ?_
  rintro e w6 ⟨id', blk, rfl, P6, t6, hu, v', hfree⟩
  clear CA XA t6
  have PH := Lib.hid P6
  have HU := Lib.hid hu
  have HFR := Lib.hid hfree
  clear P6 hu hfree
  have hidl : id' < l.length := (List.getElem?_eq_some_iff.1 HFR.out).1
  have hidk : id' < k := by omega
  go_wp2_with fail
  go_loopw [22] (fun wv wl => ∃ q' : Nat, wv = .int .i64 q' ∧ q' ≤ id' ∧ wl = w6) (fun wv _ => id' - (intOf wv).toNat)
  case atStart => exact ⟨0, rfl, Nat.zero_le _, rfl⟩
  case round =>
    obtain ⟨q', rfl, hq', rfl⟩ := hrel
    have hqk' : q' < k := by omega
    by_cases hlt : q' < id'
    · obtain ⟨v2, hv2⟩ := HU.out q' hlt
      have M0 : _ = some (Value.bool true) := PH.out.row.cell hv2 0 (by decide)
      rw [show q' * 2 + 0 = q' * 2 from rfl] at M0
      clear hv2
      go_wp2_with fail
      go_roundw
      case rel => exact ⟨q' + 1, by go_num, by omega, trivial⟩
      case measure => simp [intOf]; omega
    · obtain rfl : q' = id' := by omega
      have r1 := PH.out.row.stored HFR.out (f := 0) (by decide) (u := .bool true) (y := ⟨true, v'⟩) rfl
      have r2 := r1.stored (set_same hidl) (f := 1) (by decide) (u := .int .u8 ((0 : Nat) : Int)) (y := ⟨true, 0⟩) rfl
      rw [List.set_set] at r2
      have M0 : _ = some (Value.bool false) := PH.out.row.cell HFR.out 0 (by decide)
      have M1 : _ = some (Value.int .u8 (v' : Int)) := PH.out.row.cell HFR.out 1 (by decide)
      rw [show q' * 2 + 0 = q' * 2 from rfl] at M0 r2
      have z0 := PH.out.row.fz
      have z1 := r1.fz
      rw [show q' * 2 + 0 = q' * 2 from rfl] at z1
      have P9 := PH.out.rowed r2 ((Touch.cell1 _ gl _ _).trans (Touch.cell1 _ gl _ _))
      clear PH r1 r2
      have PU : ((S.did.took q' blk).m.length : Int) = (S.m.length : Int) + 1 := by show ((S.m ++ [_]).length : Int) = _; simp
      have PP : ((S.did.took q' blk).peak : Int) = (S.peak : Int) := by show ((max S.peak (S.m.length + 1) : Nat) : Int) = _; omega
      have PO : ((S.did.took q' blk).ops : Int) = (S.ops : Int) + 1 := by show ((S.ops + 1 : Nat) : Int) = _; omega
      have PF : (S.did.took q' blk).failed = true := by show (S.failed || S.fails) = _; rw [hfd, HFS.out]; rfl
      have HU := used_any P9.st
      have HP := peak_any P9.st
      have HO := ops_any P9.st (P9.small (by omega))
      have HD := failed_any P9.st
      rw [PU] at HU
      rw [PP] at HP
      rw [PO] at HO
      rw [PF] at HD
      have HU := Lib.hid HU
      have HP := Lib.hid HP
      have HO := Lib.hid HO
      have HD := Lib.hid HD
      have PH := Lib.hid P9
      have QU := Lib.hid PU
      have QP := Lib.hid PP
      have QO := Lib.hid PO
      have QF := Lib.hid PF
      clear PU PP PO PF
      go_wp2_with fail
      refine HU.out.mono ?_
      rintro e w8 ⟨rfl, rfl⟩
      go_wp2_with fail
      refine HP.out.mono ?_
      rintro e w8 ⟨rfl, rfl⟩
      go_wp2_with fail
      refine HO.out.mono ?_
      rintro e w8 ⟨rfl, rfl⟩
      go_wp2_with fail
      refine HD.out.mono ?_
      rintro e w8 ⟨rfl, nd, rfl⟩
      clear HU HP HO HD
      go_wp2_with fail
      exact ⟨WB.intro rfl ⟨j + 1, S.did.took q' blk, l.set q' ⟨true, 0⟩, by first | rfl | exact congrArg (Value.int .i64) QU.out.symm, by first | rfl | exact congrArg (Value.int .i64) QP.out.symm, by first | rfl | exact congrArg (Value.int .i64) QO.out.symm, by first | rfl | exact congrArg Value.bool QF.out.symm, by go_num, by omega, PH.out.fresh (Touch.drewN _ _ _), rfl, rfl, rfl, rfl, rfl, rfl⟩, by simp [Bmu, intOf]; omega⟩

set_option maxRecDepth 1000000 in
set_option maxHeartbeats 4000000 in
theorem bcase_ao0_3f1 {w : World} {size cap : Nat} {fail : Int} {k gl p bm : Nat} {wr : World} {u : Nat → Value} {j : Nat} {S : St} {l : List Pg} {g o len0 cap0 : Nat} {kind id xn : Int} {lg : Bool}
    (H : Brd w size cap fail k gl p bm wr u j S l g o len0 cap0 kind id xn lg) {K0 : Act → World → Prop} (hf0 : fail < 0) {q v : Nat} (hi0 : id = (q : Int)) (hi1 : l[q]? = some ⟨true, v⟩) (hfd : S.failed = false) (hk : kind % 4 = 0) (hc : ¬ S.m.length = cap) (hbig : S.peak < S.m.length + 1) :
    Code.wp Try.prog body6 (BOut w size cap fail k gl p bm j g o len0 cap0 K0) (frame6 u) wr := by
  obtain ⟨u0, u1, u2, u3, u9, u11, u12, u13, u14, u15, u16, hj, l60, d0, d1, d2, d3, P, hkr, hsz⟩ := H
  conv => arg 2; whnf
  simp only [frame6, u0, u1, u2, u3, u9, u11, u12, u13, u14, u15, u16, hfd]
  clear u0 u1 u2 u3 u9 u11 u12 u13 u14 u15 u16
  have tX : Touch (fun _ => False) wr (wr.alloc (.cells #[.int .u8 kind, .int .i64 id, .int .i64 xn, .bool lg] 42)) := Touch.alloc _ _ _
  have PX := P.fresh tX
  have XA := Lib.hid (XB.new wr kind id xn lg)
  have hzn : ¬ fp S p bm wr.heap.size := fun h => by have := P.ltf _ h; omega
  have hgz : gl < wr.heap.size := P.ltg
  have hops := P.inv.ops
  have hlen := P.inv.len
  have hlk := P.kl
  have hkc : k ≤ 70 := by have := P.kc; omega
  have hws := P.bel.size
  have hpk := P.st.hc.2.2
  have hFS : S.fails = false := by simp [St.fails, P.e3]; omega
  have hf2 : ¬ 0 ≤ fail := by omega
  subst hi0
  have hql : q < l.length := (List.getElem?_eq_some_iff.1 hi1).1
  have hqk : q < k := by rw [← P.kl]; exact hql
  have MX : (wr.alloc (.cells #[.int .u8 kind, .int .i64 (q : Int), .int .i64 xn, .bool lg] 42)).cell? ⟨gl, q * 2, Option.none⟩ = some (.bool true) := PX.row.cell hi1 0 (by decide)
  have hpk2 : (S.peak : Int) < (S.m.length : Int) + 1 := by omega
  have hcap : ¬ (S.m.length : Int) = (cap : Int) := by omega
  have CA := Lib.hid (PX.allocOk (by omega) hFS hc)
  have HFS := Lib.hid hFS
  clear P PX tX hFS
  go_wp2_with fail
  refine CA.out.mono ?_
  rintro e w6 ⟨id', blk, rfl, P6, t6, hu, v', hfree⟩
  clear CA XA t6
  have PH := Lib.hid P6
  have HU := Lib.hid hu
  have HFR := Lib.hid hfree
  clear P6 hu hfree
  have hidl : id' < l.length := (List.getElem?_eq_some_iff.1 HFR.out).1
  have hidk : id' < k := by omega
  go_wp2_with fail
  go_loopw [22] (fun wv wl => ∃ q' : Nat, wv = .int .i64 q' ∧ q' ≤ id' ∧ wl = w6) (fun wv _ => id' - (intOf wv).toNat)
  case atStart => exact ⟨0, rfl, Nat.zero_le _, rfl⟩
  case round =>
    obtain ⟨q', rfl, hq', rfl⟩ := hrel
    have hqk' : q' < k := by omega
    by_cases hlt : q' < id'
    · obtain ⟨v2, hv2⟩ := HU.out q' hlt
      have M0 : _ = some (Value.bool true) := PH.out.row.cell hv2 0 (by decide)
      rw [show q' * 2 + 0 = q' * 2 from rfl] at M0
      clear hv2
      go_wp2_with fail
      go_roundw
      case rel => exact ⟨q' + 1, by go_num, by omega, trivial⟩
      case measure => simp [intOf]; omega
    · obtain rfl : q' = id' := by omega
      have r1 := PH.out.row.stored HFR.out (f := 0) (by decide) (u := .bool true) (y := ⟨true, v'⟩) rfl
      have r2 := r1.stored (set_same hidl) (f := 1) (by decide) (u := .int .u8 ((0 : Nat) : Int)) (y := ⟨true, 0⟩) rfl
      rw [List.set_set] at r2
      have M0 : _ = some (Value.bool false) := PH.out.row.cell HFR.out 0 (by decide)
      have M1 : _ = some (Value.int .u8 (v' : Int)) := PH.out.row.cell HFR.out 1 (by decide)
      rw [show q' * 2 + 0 = q' * 2 from rfl] at M0 r2
      have z0 := PH.out.row.fz
      have z1 := r1.fz
      rw [show q' * 2 + 0 = q' * 2 from rfl] at z1
      have P9 := PH.out.rowed r2 ((Touch.cell1 _ gl _ _).trans (Touch.cell1 _ gl _ _))
      clear PH r1 r2
      have PU : ((S.did.took q' blk).m.length : Int) = (S.m.length : Int) + 1 := by show ((S.m ++ [_]).length : Int) = _; simp
      have PP : ((S.did.took q' blk).peak : Int) = (S.m.length : Int) + 1 := by show ((max S.peak (S.m.length + 1) : Nat) : Int) = _; omega
      have PO : ((S.did.took q' blk).ops : Int) = (S.ops : Int) + 1 := by show ((S.ops + 1 : Nat) : Int) = _; omega
      have PF : (S.did.took q' blk).failed = false := by show (S.failed || S.fails) = _; rw [hfd, HFS.out]; rfl
      have HU := used_any P9.st
      have HP := peak_any P9.st
      have HO := ops_any P9.st (P9.small (by omega))
      have HD := failed_any P9.st
      rw [PU] at HU
      rw [PP] at HP
      rw [PO] at HO
      rw [PF] at HD
      have HU := Lib.hid HU
      have HP := Lib.hid HP
      have HO := Lib.hid HO
      have HD := Lib.hid HD
      have PH := Lib.hid P9
      have QU := Lib.hid PU
      have QP := Lib.hid PP
      have QO := Lib.hid PO
      have QF := Lib.hid PF
      clear PU PP PO PF
      go_wp2_with fail
      refine HU.out.mono ?_
      rintro e w8 ⟨rfl, rfl⟩
      go_wp2_with fail
      refine HP.out.mono ?_
      rintro e w8 ⟨rfl, rfl⟩
      go_wp2_with fail
      refine HO.out.mono ?_
      rintro e w8 ⟨rfl, rfl⟩
      go_wp2_with fail
      refine HD.out.mono ?_
      rintro e w8 ⟨rfl, nd, rfl⟩
      clear HU HP HO HD
      go_wp2_with fail
      exact ⟨WB.intro rfl ⟨j + 1, S.did.took q' blk, l.set q' ⟨true, 0⟩, by first | rfl | exact congrArg (Value.int .i64) QU.out.symm, by first | rfl | exact congrArg (Value.int .i64) QP.out.symm, by first | rfl | exact congrArg (Value.int .i64) QO.out.symm, by first | rfl | exact congrArg Value.bool QF.out.symm, by go_num, by omega, PH.out.fresh (Touch.drewN _ _ _), rfl, rfl, rfl, rfl, rfl, rfl⟩, by simp [Bmu, intOf]; omega⟩

set_option maxRecDepth 1000000 in
set_option maxHeartbeats 4000000 in
theorem bcase_ao0_3f0 {w : World} {size cap : Nat} {fail : Int} {k gl p bm : Nat} {wr : World} {u : Nat → Value} {j : Nat} {S : St} {l : List Pg} {g o len0 cap0 : Nat} {kind id xn : Int} {lg : Bool}
    (H : Brd w size cap fail k gl p bm wr u j S l g o len0 cap0 kind id xn lg) {K0 : Act → World → Prop} (hf0 : fail < 0) {q v : Nat} (hi0 : id = (q : Int)) (hi1 : l[q]? = some ⟨true, v⟩) (hfd : S.failed = false) (hk : kind % 4 = 0) (hc : ¬ S.m.length = cap) (hbig : ¬ S.peak < S.m.length + 1) :
    Code.wp Try.prog body6 (BOut w size cap fail k gl p bm j g o len0 cap0 K0) (frame6 u) wr := by
  obtain ⟨u0, u1, u2, u3, u9, u11, u12, u13, u14, u15, u16, hj, l60, d0, d1, d2, d3, P, hkr, hsz⟩ := H
  conv => arg 2; whnf
  simp only [frame6, u0, u1, u2, u3, u9, u11, u12, u13, u14, u15, u16, hfd]
  clear u0 u1 u2 u3 u9 u11 u12 u13 u14 u15 u16
  have tX : Touch (fun _ => False) wr (wr.alloc (.cells #[.int .u8 kind, .int .i64 id, .int .i64 xn, .bool lg] 42)) := Touch.alloc _ _ _
  have PX := P.fresh tX
  have XA := Lib.hid (XB.new wr kind id xn lg)
  have hzn : ¬ fp S p bm wr.heap.size := fun h => by have := P.ltf _ h; omega
  have hgz : gl < wr.heap.size := P.ltg
  have hops := P.inv.ops
  have hlen := P.inv.len
  have hlk := P.kl
  have hkc : k ≤ 70 := by have := P.kc; omega
  have hws := P.bel.size
  have hpk := P.st.hc.2.2
  have hFS : S.fails = false := by simp [St.fails, P.e3]; omega
  have hf2 : ¬ 0 ≤ fail := by omega
  subst hi0
  have hql : q < l.length := (List.getElem?_eq_some_iff.1 hi1).1
  have hqk : q < k := by rw [← P.kl]; exact hql
  have MX : (wr.alloc (.cells #[.int .u8 kind, .int .i64 (q : Int), .int .i64 xn, .bool lg] 42)).cell? ⟨gl, q * 2, Option.none⟩ = some (.bool true) := PX.row.cell hi1 0 (by decide)
  have hpk2 : (S.m.length : Int) + 1 ≤ (S.peak : Int) := by omega
  have hcap : ¬ (S.m.length : Int) = (cap : Int) := by omega
  have CA := Lib.hid (PX.allocOk (by omega) hFS hc)
  have HFS := Lib.hid hFS
  clear P PX tX hFS
  go_wp2_with fail
  refine CA.out.mono ?_
  rintro e w6 ⟨id', blk, rfl, P6, t6, hu, v', hfree⟩
  clear CA XA t6
  have PH := Lib.hid P6
  have HU := Lib.hid hu
  have HFR := Lib.hid hfree
  clear P6 hu hfree
  have hidl : id' < l.length := (List.getElem?_eq_some_iff.1 HFR.out).1
  have hidk : id' < k := by omega
  go_wp2_with fail
  go_loopw [22] (fun wv wl => ∃ q' : Nat, wv = .int .i64 q' ∧ q' ≤ id' ∧ wl = w6) (fun wv _ => id' - (intOf wv).toNat)
  case atStart => exact ⟨0, rfl, Nat.zero_le _, rfl⟩
  case round =>
    obtain ⟨q', rfl, hq', rfl⟩ := hrel
    have hqk' : q' < k := by omega
    by_cases hlt : q' < id'
    · obtain ⟨v2, hv2⟩ := HU.out q' hlt
      have M0 : _ = some (Value.bool true) := PH.out.row.cell hv2 0 (by decide)
      rw [show q' * 2 + 0 = q' * 2 from rfl] at M0
      clear hv2
      go_wp2_with fail
      go_roundw
      case rel => exact ⟨q' + 1, by go_num, by omega, trivial⟩
      case measure => simp [intOf]; omega
    · obtain rfl : q' = id' := by omega
      have r1 := PH.out.row.stored HFR.out (f := 0) (by decide) (u := .bool true) (y := ⟨true, v'⟩) rfl
      have r2 := r1.stored (set_same hidl) (f := 1) (by decide) (u := .int .u8 ((0 : Nat) : Int)) (y := ⟨true, 0⟩) rfl
      rw [List.set_set] at r2
      have M0 : _ = some (Value.bool false) := PH.out.row.cell HFR.out 0 (by decide)
      have M1 : _ = some (Value.int .u8 (v' : Int)) := PH.out.row.cell HFR.out 1 (by decide)
      rw [show q' * 2 + 0 = q' * 2 from rfl] at M0 r2
      have z0 := PH.out.row.fz
      have z1 := r1.fz
      rw [show q' * 2 + 0 = q' * 2 from rfl] at z1
      have P9 := PH.out.rowed r2 ((Touch.cell1 _ gl _ _).trans (Touch.cell1 _ gl _ _))
      clear PH r1 r2
      have PU : ((S.did.took q' blk).m.length : Int) = (S.m.length : Int) + 1 := by show ((S.m ++ [_]).length : Int) = _; simp
      have PP : ((S.did.took q' blk).peak : Int) = (S.peak : Int) := by show ((max S.peak (S.m.length + 1) : Nat) : Int) = _; omega
      have PO : ((S.did.took q' blk).ops : Int) = (S.ops : Int) + 1 := by show ((S.ops + 1 : Nat) : Int) = _; omega
      have PF : (S.did.took q' blk).failed = false := by show (S.failed || S.fails) = _; rw [hfd, HFS.out]; rfl
      have HU := used_any P9.st
      have HP := peak_any P9.st
      have HO := ops_any P9.st (P9.small (by omega))
      have HD := failed_any P9.st
      rw [PU] at HU
      rw [PP] at HP
      rw [PO] at HO
      rw [PF] at HD
      have HU := Lib.hid HU
      have HP := Lib.hid HP
      have HO := Lib.hid HO
      have HD := Lib.hid HD
      have PH := Lib.hid P9
      have QU := Lib.hid PU
      have QP := Lib.hid PP
      have QO := Lib.hid PO
      have QF := Lib.hid PF
      clear PU PP PO PF
      go_wp2_with fail
      refine HU.out.mono ?_
      rintro e w8 ⟨rfl, rfl⟩
      go_wp2_with fail
      refine HP.out.mono ?_
      rintro e w8 ⟨rfl, rfl⟩
      go_wp2_with fail
      refine HO.out.mono ?_
      rintro e w8 ⟨rfl, rfl⟩
      go_wp2_with fail
      refine HD.out.mono ?_
      rintro e w8 ⟨rfl, nd, rfl⟩
      clear HU HP HO HD
      go_wp2_with fail
      exact ⟨WB.intro rfl ⟨j + 1, S.did.took q' blk, l.set q' ⟨true, 0⟩, by first | rfl | exact congrArg (Value.int .i64) QU.out.symm, by first | rfl | exact congrArg (Value.int .i64) QP.out.symm, by first | rfl | exact congrArg (Value.int .i64) QO.out.symm, by first | rfl | exact congrArg Value.bool QF.out.symm, by go_num, by omega, PH.out.fresh (Touch.drewN _ _ _), rfl, rfl, rfl, rfl, rfl, rfl⟩, by simp [Bmu, intOf]; omega⟩
end Go.Proofs.Ytaeicondmiikaaa
