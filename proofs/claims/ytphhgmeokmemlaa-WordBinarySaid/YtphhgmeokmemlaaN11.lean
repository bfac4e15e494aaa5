/- The document's binary ops, op for op: the turn to the right. -/
import Derived.Test.YtphhgmeokmemlaaN10
namespace Go.Proofs.Ytphhgmeokmemlaa
open Go.RowKit Go.Maps
set_option linter.unusedSimpArgs false
set_option linter.unusedVariables false

section
variable (N x y : Nat) (h0 : 0 < N) (hn : N ≤ 64) (hx : x < 18446744073709551616) (hy : y < 18446744073709551616) (w : World)
include h0 hn hx hy

set_option maxRecDepth 100000 in
set_option maxHeartbeats 1000000 in
theorem ref_rotr : Calls Try.prog 11 #[.int .i64 14, .int .i64 N, .int .u64 x, .int .u64 y] w (R2 (x % 2 ^ N / 2 ^ ((y % 2 ^ N) % N) + 2 ^ (N - (y % 2 ^ N) % N) * (x % 2 ^ N % 2 ^ ((y % 2 ^ N) % N))) 0 w) := by
  have LA := Lib.hid (fun w => list_okC (w' := w) N x h0 hn hx w)
  have LB := Lib.hid (fun w => list_ok N y h0 hn hy w)
  have eN : IntKind.u64.wrap (N : Int) = (N : Int) := IntWalk.u64_in _ (by omega)
  have nN : ¬ (N : Int) = 0 := by omega
  have kK : (y % 2 ^ N) % N < N := Nat.mod_lt _ h0
  have hk : ((y % 2 ^ N : Nat) : Int) % (N : Int) = (((y % 2 ^ N) % N : Nat) : Int) := (Int.natCast_emod _ _).symm
  have KK := Lib.hid (show ∃ K, K = (y % 2 ^ N) % N from ⟨_, rfl⟩)
  obtain ⟨K, hK⟩ := KK.out
  rw [← hK] at hk kK
  have eK : IntKind.i64.wrap (K : Int) = (K : Int) := IntWalk.i64_in _ (by omega)
  have WA := wd_lst N x
  have WB := wd_lst N y
  have lA := lst_length N x
  have lB := lst_length N y
  have HK := Lib.hid hK
  have WO := fun (w : World) (v : Value) (B : Nat) (h : Bits w v (lst N y) B) => word_ok (lst N y) (by omega) h
  rw [WB] at WO
  obtain ⟨la, hla⟩ : ∃ l, l = lst N x := ⟨_, rfl⟩
  obtain ⟨lb, hlb⟩ : ∃ l, l = lst N y := ⟨_, rfl⟩
  rw [← hla] at WA lA
  rw [← hlb] at WB lB WO
  have HLA := hla.symm
  have HLB := hlb.symm
  have HH := Lib.hid (And.intro WA (And.intro WB (And.intro lA lB)))
  obtain ⟨Y, hY⟩ : ∃ Y, Y = y % 2 ^ N := ⟨_, rfl⟩
  rw [← hY] at WO hk
  have WO := Lib.hid WO
  have HY := Lib.hid hY
  clear hY
  have HLA2 := Lib.hid HLA
  have HLB2 := Lib.hid HLB
  clear WA WB lA lB hK hla hlb KK HLA HLB
  go_enter Try.func11, Try.ntmps11
  go_wp2_with fail
  refine (LA.out _).mono ?_
  rintro e w2 ⟨va, vm, vc, rfl, hcap, ba, t2⟩
  have CAP := Lib.hid hcap
  clear hcap
  rw [HLA2.out] at ba
  have BA := Lib.hid ba
  have T2 := Lib.hid t2
  clear ba t2
  go_wp2_with fail
  refine (LB.out _).mono ?_
  rintro e w3 ⟨vb, rfl, bb, t3⟩
  rw [HLB2.out] at bb
  have T3 := Lib.hid (T2.out.trans t3)
  have BA3 := Lib.hid (BA.out.fresh t3)
  have BB3 := Lib.hid bb
  clear t3 bb
  go_wp2_with fail
  refine (WO.out _ _ _ BB3.out).mono ?_
  rintro e w4 ⟨rfl, rfl⟩
  have hbx := BA3.out
  obtain ⟨g, cp, cur, hva, hB, hg, hc⟩ := hbx
  have hcell := bits_cell hg hc (N - 1) (by rw [HH.out.2.2.1]; omega)
  have lA := HH.out.2.2.1
  have hcap := CAP.out
  simp only [Value.slice.injEq] at hva
  obtain ⟨rfl, rfl, rfl⟩ := hva
  rw [lA] at hcap
  rw [lA]
  have HGR := hg
  have CUR := Lib.hid (show ∀ j, j < N → cur[j]? = some (.bool (la.getD j false)) from fun j hj => by
    have h1 := bits_cell hg hc j (by omega)
    rwa [cell_of_row _ _ _ _ _ _ hg] at h1)
  clear hg hc hB lA hcell
  have eN1 : IntKind.i64.wrap ((N : Int) - 1) = ((N - 1 : Nat) : Int) := by rw [IntWalk.i64_in _ (by omega)]; omega
  have eNK : IntKind.i64.wrap ((N : Int) - (K : Int)) = ((N - K : Nat) : Int) := by rw [IntWalk.i64_in _ (by omega)]; omega
  obtain ⟨OFF, hOFF⟩ : ∃ o, o = if vc = K then 0 else K := ⟨_, rfl⟩
  have hoff : (if vc = K then some ⟨g, 0, Option.none⟩ else some ⟨g, K, Option.none⟩ : Option Addr) = some ⟨g, OFF, Option.none⟩ := by rw [hOFF]; split <;> rfl
  have hsl1 : Hid (∀ j, j < N - K → cur[OFF + j]? = some (.bool ((la.drop K).getD j false))) := Lib.hid (fun j hj => by
    rw [getD_drop, hOFF, if_neg (by omega)]; exact CUR.out (K + j) (by omega))
  have hsl2 : Hid (∀ j, j < K → cur[0 + j]? = some (.bool ((la.take K).getD j false))) := Lib.hid (fun j hj => by
    rw [getD_take _ _ _ hj, Nat.zero_add]; exact CUR.out j (by omega))
  have GW := Lib.hid HGR
  clear hOFF HGR
  obtain ⟨r, hr⟩ : ∃ r, r = wd (la.drop K ++ la.take K) := ⟨_, rfl⟩
  have VV := Lib.hid (show r = x % 2 ^ N / 2 ^ ((y % 2 ^ N) % N) + 2 ^ (N - (y % 2 ^ N) % N) * (x % 2 ^ N % 2 ^ ((y % 2 ^ N) % N)) by
    rw [hr, wd_append, wd_drop_div la _ (by rw [HH.out.2.2.1]; omega), wd_take_mod la _ (by rw [HH.out.2.2.1]; omega), List.length_drop, HH.out.2.2.1, HH.out.1, HK.out])
  have WRD := Lib.hid (show ∀ (len : Nat) (a2 : Option Addr) (c2 : Nat) (w6 : World), len = N → Bld w3 w6 a2 (0 + (N - K) + K) c2 ([] ++ la.drop K ++ la.take K) → Calls Try.prog 21 #[.slice a2 len c2] w6 (Ret w6 (.int .u64 (r : Int))) from fun len a2 c2 w6 he hb => by
    rw [Nat.zero_add, List.nil_append] at hb
    rw [hr, he]
    have e9 : N - K + K = N := by omega
    have hb2 := (hb.done (by rw [List.length_append, List.length_drop, List.length_take, HH.out.2.2.1]; omega) (by omega))
    rw [e9] at hb2
    exact word_ok _ (by rw [List.length_append, List.length_drop, List.length_take, HH.out.2.2.1]; omega) hb2)
  clear hr
  have gw3 : g < w3.heap.size := (Array.getElem?_eq_some_iff.1 GW.out).1
  have L1 : (la.drop K).length = N - K := by rw [List.length_drop, HH.out.2.2.1]
  have L2 : (la.take K).length = K := by rw [List.length_take, HH.out.2.2.1]; omega
  have LL := Lib.hid (And.intro L1 L2)
  have hcap2 : K ≤ vc := by omega
  have hcap3 : K ≤ N := by omega
  clear L1 L2
  go_wp2_with fail
  go_region_law (first
    | (refine step_append_part (w := w3) (av := some ⟨w3.heap.size, 0, Option.none⟩) (i := 0) (cap := 0) (g := g) (off := OFF) (m := N - K) (c := vc - K) (cur := cur) (l := []) (L := la.drop K) (by rfl) (.tmp 168) (.tmp 171) (by rfl) (by rfl) (by simp [Act.eval, Act.put]) (by simp [Act.eval, Act.put]) (by first | exact (Bld.lit (Touch.refl _ _)).drew | exact Bld.lit (Touch.drew _ _)) (by omega) (by first | exact ((Touch.alloc (fun _ => False) w3 _).trans (Touch.drew _ _)).heap (fun h => h) GW.out | exact ((Touch.drew (fun _ => False) w3).trans (Touch.alloc _ _ _)).heap (fun h => h) GW.out) LL.out.1 hsl1.out gw3 ?_
       intro a1 c1 w5 b1 g1)
    | (refine step_append_part (w := w3) (av := a1) (i := 0 + (N - K)) (cap := c1) (g := g) (off := 0) (m := K) (c := vc) (cur := cur) (l := [] ++ la.drop K) (L := la.take K) (by rfl) (.tmp 172) (.tmp 175) (by rfl) (by rfl) (by simp [Act.eval, Act.put]) (by simp [Act.eval, Act.put]) b1 (by omega) g1 LL.out.2 hsl2.out gw3 ?_
       intro a2 c2 w6 b2 g2)
    | (go_simp
       go_at_call 21
       refine (WRD.out _ a2 c2 w6 (by omega) b2).mono ?_
       rintro e w7 ⟨rfl, rfl⟩))
  all_goals
    have T6 := Lib.hid (T3.out.trans b2.t)
    clear b2 g2 b1 g1
    go_wp2_with fail
    go_ret2
    exact ⟨by rw [← VV.out]; rfl, T6.out⟩
end
end Go.Proofs.Ytphhgmeokmemlaa
