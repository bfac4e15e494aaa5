/- BlockPlays: nothing to give. -/
import Derived.Test.YtaeicondmiikaaaCc
namespace Go.Proofs.Ytaeicondmiikaaa
open Go.RowKit Go.Maps
set_option linter.unusedSimpArgs false
set_option linter.unusedVariables false

set_option maxRecDepth 1000000 in
set_option maxHeartbeats 4000000 in
theorem bcase_fa1_0 {w : World} {size cap : Nat} {fail : Int} {k gl p bm : Nat} {wr : World} {u : Nat → Value} {j : Nat} {S : St} {l : List Pg} {g o len0 cap0 : Nat} {kind id xn : Int} {lg : Bool}
    (H : Brd w size cap fail k gl p bm wr u j S l g o len0 cap0 kind id xn lg) {K0 : Act → World → Prop} (hf0 : 0 ≤ fail) (hf1 : (S.ops : Int) < fail) (hi0 : id < 0)  (hk : kind % 4 = 1) :
    Code.wp Try.prog body6 (BOut w size cap fail k gl p bm j g o len0 cap0 K0) (frame6 u) wr := by
  obtain ⟨u0, u1, u2, u3, u9, u11, u12, u13, u14, u15, u16, hj, l60, d0, d1, d2, d3, P, hkr, hsz⟩ := H
  conv => arg 2; whnf
  simp only [frame6, u0, u1, u2, u3, u9, u11, u12, u13, u14, u15, u16]
  clear u0 u1 u2 u3 u9 u11 u12 u13 u14 u15 u16
  have tX : Touch (fun _ => False) wr (wr.alloc (.cells #[.int .u8 kind, .int .i64 id, .int .i64 xn, .bool lg] 42)) := Touch.alloc _ _ _
  have PX := P.fresh tX
  have XA := Lib.hid (XB.new wr kind id xn lg)
  have hzn : ¬ fp S p bm wr.heap.size := fun h => by have := P.ltf _ h; omega
  have hgz : gl < wr.heap.size := P.ltg
  have hops := P.inv.ops
  have hlen := P.inv.len
  have hlk := P.kl
  have hkc : k ≤ 70 := by have := P.kc; omega
  have hws := P.bel.size
  have hpk := P.st.hc.2.2
  have hFS : S.fails = false := by simp [St.fails, P.e3]; omega
  have hf2 : ¬ fail ≤ (S.ops : Int) := by omega
  have hIA : id ∉ S.m.map (·.1) := P.inv.absent (.inl hi0)
  have hi2 : ¬ 0 ≤ id := by omega
  have CA := Lib.hid (PX.freeA _ hIA)
  have HFS := Lib.hid hFS
  clear P PX tX hFS
  go_wp2_with fail
  refine CA.out.mono ?_
  rintro e w6 ⟨rfl, P6, t6⟩
  have X6 := XA.out.kept t6 hzn
  have c1 := X6.c1
  have c2 := X6.c2
  have c3 := X6.c3
  clear CA t6 X6
  go_wp2_with fail
  have PU : ((S).m.length : Int) = (S.m.length : Int) := rfl
  have PP : ((S).peak : Int) = (S.peak : Int) := rfl
  have PO : ((S).ops : Int) = (S.ops : Int) := rfl
  have PF : (S).failed = S.failed := rfl
  have HU := used_any P6.st
  have HP := peak_any P6.st
  have HO := ops_any P6.st (P6.small (by omega))
  have HD := failed_any P6.st
  rw [PU] at HU
  rw [PP] at HP
  rw [PO] at HO
  rw [PF] at HD
  have HU := Lib.hid HU
  have HP := Lib.hid HP
  have HO := Lib.hid HO
  have HD := Lib.hid HD
  have PH := Lib.hid P6
  have QU := Lib.hid PU
  have QP := Lib.hid PP
  have QO := Lib.hid PO
  have QF := Lib.hid PF
  clear PU PP PO PF XA
  skip
  refine HU.out.mono ?_
  rintro e w8 ⟨rfl, rfl⟩
  go_wp2_with fail
  refine HP.out.mono ?_
  rintro e w8 ⟨rfl, rfl⟩
  go_wp2_with fail
  refine HO.out.mono ?_
  rintro e w8 ⟨rfl, rfl⟩
  go_wp2_with fail
  refine HD.out.mono ?_
  rintro e w8 ⟨rfl, nd, rfl⟩
  clear HU HP HO HD
  go_wp2_with fail
  exact ⟨WB.intro rfl ⟨j + 1, S, l, by first | rfl | exact congrArg (Value.int .i64) QU.out.symm, by first | rfl | exact congrArg (Value.int .i64) QP.out.symm, by first | rfl | exact congrArg (Value.int .i64) QO.out.symm, by first | rfl | exact congrArg Value.bool QF.out.symm, by go_num, by omega, PH.out.fresh (Touch.drewN _ _ _), rfl, rfl, rfl, rfl, rfl, rfl⟩, by simp [Bmu, intOf]; omega⟩

set_option maxRecDepth 1000000 in
set_option maxHeartbeats 4000000 in
theorem bcase_fa1_1 {w : World} {size cap : Nat} {fail : Int} {k gl p bm : Nat} {wr : World} {u : Nat → Value} {j : Nat} {S : St} {l : List Pg} {g o len0 cap0 : Nat} {kind id xn : Int} {lg : Bool}
    (H : Brd w size cap fail k gl p bm wr u j S l g o len0 cap0 kind id xn lg) {K0 : Act → World → Prop} (hf0 : 0 ≤ fail) (hf1 : (S.ops : Int) < fail) (hi0 : 0 ≤ id) (hi1 : (k : Int) ≤ id)  (hk : kind % 4 = 1) :
    Code.wp Try.prog body6 (BOut w size cap fail k gl p bm j g o len0 cap0 K0) (frame6 u) wr := by
  obtain ⟨u0, u1, u2, u3, u9, u11, u12, u13, u14, u15, u16, hj, l60, d0, d1, d2, d3, P, hkr, hsz⟩ := H
  conv => arg 2; whnf
  simp only [frame6, u0, u1, u2, u3, u9, u11, u12, u13, u14, u15, u16]
  clear u0 u1 u2 u3 u9 u11 u12 u13 u14 u15 u16
  have tX : Touch (fun _ => False) wr (wr.alloc (.cells #[.int .u8 kind, .int .i64 id, .int .i64 xn, .bool lg] 42)) := Touch.alloc _ _ _
  have PX := P.fresh tX
  have XA := Lib.hid (XB.new wr kind id xn lg)
  have hzn : ¬ fp S p bm wr.heap.size := fun h => by have := P.ltf _ h; omega
  have hgz : gl < wr.heap.size := P.ltg
  have hops := P.inv.ops
  have hlen := P.inv.len
  have hlk := P.kl
  have hkc : k ≤ 70 := by have := P.kc; omega
  have hws := P.bel.size
  have hpk := P.st.hc.2.2
  have hFS : S.fails = false := by simp [St.fails, P.e3]; omega
  have hf2 : ¬ fail ≤ (S.ops : Int) := by omega
  have hIA : id ∉ S.m.map (·.1) := P.inv.absent (.inr (.inl (by rw [P.kl]; exact hi1)))
  have hi2 : ¬ id < (k : Int) := by omega
  have CA := Lib.hid (PX.freeA _ hIA)
  have HFS := Lib.hid hFS
  clear P PX tX hFS
  go_wp2_with fail
  refine CA.out.mono ?_
  rintro e w6 ⟨rfl, P6, t6⟩
  have X6 := XA.out.kept t6 hzn
  have c1 := X6.c1
  have c2 := X6.c2
  have c3 := X6.c3
  clear CA t6 X6
  go_wp2_with fail
  have PU : ((S).m.length : Int) = (S.m.length : Int) := rfl
  have PP : ((S).peak : Int) = (S.peak : Int) := rfl
  have PO : ((S).ops : Int) = (S.ops : Int) := rfl
  have PF : (S).failed = S.failed := rfl
  have HU := used_any P6.st
  have HP := peak_any P6.st
  have HO := ops_any P6.st (P6.small (by omega))
  have HD := failed_any P6.st
  rw [PU] at HU
  rw [PP] at HP
  rw [PO] at HO
  rw [PF] at HD
  have HU := Lib.hid HU
  have HP := Lib.hid HP
  have HO := Lib.hid HO
  have HD := Lib.hid HD
  have PH := Lib.hid P6
  have QU := Lib.hid PU
  have QP := Lib.hid PP
  have QO := Lib.hid PO
  have QF := Lib.hid PF
  clear PU PP PO PF XA
  skip
  refine HU.out.mono ?_
  rintro e w8 ⟨rfl, rfl⟩
  go_wp2_with fail
  refine HP.out.mono ?_
  rintro e w8 ⟨rfl, rfl⟩
  go_wp2_with fail
  refine HO.out.mono ?_
  rintro e w8 ⟨rfl, rfl⟩
  go_wp2_with fail
  refine HD.out.mono ?_
  rintro e w8 ⟨rfl, nd, rfl⟩
  clear HU HP HO HD
  go_wp2_with fail
  exact ⟨WB.intro rfl ⟨j + 1, S, l, by first | rfl | exact congrArg (Value.int .i64) QU.out.symm, by first | rfl | exact congrArg (Value.int .i64) QP.out.symm, by first | rfl | exact congrArg (Value.int .i64) QO.out.symm, by first | rfl | exact congrArg Value.bool QF.out.symm, by go_num, by omega, PH.out.fresh (Touch.drewN _ _ _), rfl, rfl, rfl, rfl, rfl, rfl⟩, by simp [Bmu, intOf]; omega⟩

set_option maxRecDepth 1000000 in
set_option maxHeartbeats 4000000 in
theorem bcase_fa1_2 {w : World} {size cap : Nat} {fail : Int} {k gl p bm : Nat} {wr : World} {u : Nat → Value} {j : Nat} {S : St} {l : List Pg} {g o len0 cap0 : Nat} {kind id xn : Int} {lg : Bool}
    (H : Brd w size cap fail k gl p bm wr u j S l g o len0 cap0 kind id xn lg) {K0 : Act → World → Prop} (hf0 : 0 ≤ fail) (hf1 : (S.ops : Int) < fail) {q v : Nat} (hi0 : id = (q : Int)) (hi1 : l[q]? = some ⟨false, v⟩)  (hk : kind % 4 = 1) :
    Code.wp Try.prog body6 (BOut w size cap fail k gl p bm j g o len0 cap0 K0) (frame6 u) wr := by
  obtain ⟨u0, u1, u2, u3, u9, u11, u12, u13, u14, u15, u16, hj, l60, d0, d1, d2, d3, P, hkr, hsz⟩ := H
  conv => arg 2; whnf
  simp only [frame6, u0, u1, u2, u3, u9, u11, u12, u13, u14, u15, u16]
  clear u0 u1 u2 u3 u9 u11 u12 u13 u14 u15 u16
  have tX : Touch (fun _ => False) wr (wr.alloc (.cells #[.int .u8 kind, .int .i64 id, .int .i64 xn, .bool lg] 42)) := Touch.alloc _ _ _
  have PX := P.fresh tX
  have XA := Lib.hid (XB.new wr kind id xn lg)
  have hzn : ¬ fp S p bm wr.heap.size := fun h => by have := P.ltf _ h; omega
  have hgz : gl < wr.heap.size := P.ltg
  have hops := P.inv.ops
  have hlen := P.inv.len
  have hlk := P.kl
  have hkc : k ≤ 70 := by have := P.kc; omega
  have hws := P.bel.size
  have hpk := P.st.hc.2.2
  have hFS : S.fails = false := by simp [St.fails, P.e3]; omega
  have hf2 : ¬ fail ≤ (S.ops : Int) := by omega
  subst hi0
  have hql : q < l.length := (List.getElem?_eq_some_iff.1 hi1).1
  have hqk : q < k := by rw [← P.kl]; exact hql
  have MX : (wr.alloc (.cells #[.int .u8 kind, .int .i64 (q : Int), .int .i64 xn, .bool lg] 42)).cell? ⟨gl, q * 2, Option.none⟩ = some (.bool false) := PX.row.cell hi1 0 (by decide)
  have hIA : (q : Int) ∉ S.m.map (·.1) := P.inv.absent (.inr (.inr ⟨q, v, rfl, hi1⟩))
  have CA := Lib.hid (PX.freeA _ hIA)
  have HFS := Lib.hid hFS
  clear P PX tX hFS
  go_wp2_with fail
  refine CA.out.mono ?_
  rintro e w6 ⟨rfl, P6, t6⟩
  have X6 := XA.out.kept t6 hzn
  have c1 := X6.c1
  have c2 := X6.c2
  have c3 := X6.c3
  clear CA t6 X6
  go_wp2_with fail
  have PU : ((S).m.length : Int) = (S.m.length : Int) := rfl
  have PP : ((S).peak : Int) = (S.peak : Int) := rfl
  have PO : ((S).ops : Int) = (S.ops : Int) := rfl
  have PF : (S).failed = S.failed := rfl
  have HU := used_any P6.st
  have HP := peak_any P6.st
  have HO := ops_any P6.st (P6.small (by omega))
  have HD := failed_any P6.st
  rw [PU] at HU
  rw [PP] at HP
  rw [PO] at HO
  rw [PF] at HD
  have HU := Lib.hid HU
  have HP := Lib.hid HP
  have HO := Lib.hid HO
  have HD := Lib.hid HD
  have PH := Lib.hid P6
  have QU := Lib.hid PU
  have QP := Lib.hid PP
  have QO := Lib.hid PO
  have QF := Lib.hid PF
  clear PU PP PO PF XA
  skip
  refine HU.out.mono ?_
  rintro e w8 ⟨rfl, rfl⟩
  go_wp2_with fail
  refine HP.out.mono ?_
  rintro e w8 ⟨rfl, rfl⟩
  go_wp2_with fail
  refine HO.out.mono ?_
  rintro e w8 ⟨rfl, rfl⟩
  go_wp2_with fail
  refine HD.out.mono ?_
  rintro e w8 ⟨rfl, nd, rfl⟩
  clear HU HP HO HD
  go_wp2_with fail
  exact ⟨WB.intro rfl ⟨j + 1, S, l, by first | rfl | exact congrArg (Value.int .i64) QU.out.symm, by first | rfl | exact congrArg (Value.int .i64) QP.out.symm, by first | rfl | exact congrArg (Value.int .i64) QO.out.symm, by first | rfl | exact congrArg Value.bool QF.out.symm, by go_num, by omega, PH.out.fresh (Touch.drewN _ _ _), rfl, rfl, rfl, rfl, rfl, rfl⟩, by simp [Bmu, intOf]; omega⟩
end Go.Proofs.Ytaeicondmiikaaa
