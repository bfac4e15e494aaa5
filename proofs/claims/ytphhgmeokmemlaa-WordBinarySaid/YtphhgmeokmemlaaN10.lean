/- The document's answer, op for op: the turns. -/
import Derived.Test.YtphhgmeokmemlaaN8
namespace Go.Proofs.Ytphhgmeokmemlaa
open Go.RowKit Go.Maps
set_option linter.unusedSimpArgs false
set_option linter.unusedVariables false

set_option maxHeartbeats 1000000 in
theorem list_okC {w' : World} (n x : Nat) (h0 : 0 < n) (hn : n ≤ 64) (hx : x < 18446744073709551616) (w : World) : Calls Try.prog 20 #[.int .i64 n, .int .u64 x] w (BPostC (lst n x) w) := by
  go_enter Try.func20, Try.ntmps20
  go_wp2_with fail
  go_loopw [1, 5, 6] (fun z v j wr => ∃ (i : Nat) (a : Option Addr) (cap : Nat), z = .int .u64 ((x / 2 ^ i : Nat) : Int) ∧ v = .slice a i cap ∧ j = .int .i64 i ∧ i ≤ n ∧ wr.ownsRow 0 4 1 (.slice a i cap) i (bvals (lst i x)) ∧
      (∀ k, (Value.slice a i cap).ownBlock = some k → w.heap.size ≤ k) ∧ Touch (fun _ => False) w wr) (fun _ _ j _ => n - (intOf j).toNat)
  case atStart =>
    exact ⟨0, Option.none, 0, by simp, rfl, rfl, Nat.zero_le _, ⟨by simp [lst], Or.inl ⟨rfl, rfl⟩⟩, fun k hk => by simp [Value.ownBlock] at hk, Touch.refl _ _⟩
  case round =>
    obtain ⟨i, a, cap, rfl, rfl, rfl, hi, ho, hb, t⟩ := hrel
    by_cases hlt : i < n
    · obtain ⟨a', cap', w2, hap, ho2, t2, hb2⟩ := app_b ho (by omega) (((x / 2 ^ i : Nat) : Int) % 2 == 1)
      have hyx : x / 2 ^ i < 18446744073709551616 := Nat.lt_of_le_of_lt (Nat.div_le_self _ _) hx
      have hnext : (((x / 2 ^ i : Nat) : Int)) / 2 = ((x / 2 ^ (i + 1) : Nat) : Int) := by
        rw [Nat.pow_succ, ← Nat.div_div_eq_div_mul]; omega
      have hbit : (((x / 2 ^ i : Nat) : Int) % 2 == 1) = (x / 2 ^ i % 2 == 1) := by
        rw [Bool.eq_iff_iff]; simp only [beq_iff_eq]; omega
      have ho3 : w2.ownsRow 0 4 1 (.slice a' (i + 1) cap') (i + 1) (bvals (lst (i + 1) x)) := by
        rw [lst_succ, ← hbit]; simpa [bvals] using ho2
      have HN := Lib.hid hnext
      generalize hY : x / 2 ^ i = y at *
      have HAP := Lib.hid hap
      have tt : Touch (fun _ => False) w w2 := t.trans' t2 (fun _ _ h => h) (fun k hk hf => by have := hb k hf; omega)
      have hb3 : ∀ k, (Value.slice a' (i + 1) cap').ownBlock = some k → w.heap.size ≤ k := fun k hk => (hb2 k hk).elim (hb k) (fun h => Nat.le_trans t.size h)
      clear hap ho ho2 hb hb2 t t2 hnext hbit hY
      go_wp2_with (at_builtin; refine wpList_append_run rfl _ _ 40 40 rfl rfl rfl HAP.out ?_)
      refine ⟨⟨i + 1, a', cap', by rw [HN.out], rfl, by go_num, by omega, ho3, hb3, tt⟩, by simp [intOf]; omega⟩
    · obtain rfl : i = n := by omega
      have FIN : BPostC (lst i x) w (.returned (.slice a i cap)) wr := by
        refine ⟨_, _, _, rfl, (Bld.mk ho hb t : Bld w wr a i cap (lst i x)).cap h0, ?_, t⟩
        rcases ho.2 with ⟨hv, h⟩ | ⟨g, c, cur, hv, h1, h2, h3, h4, h5, h6⟩
        · omega
        · refine ⟨g, c, cur, by rw [lst_length]; exact hv, ?_, h2, by rw [lst_length]; simpa using h6⟩
          rw [hv] at hb
          exact hb g rfl
      have FI := Lib.hid FIN
      clear FIN ho hb t
      go_wp2_with fail
      go_ret
      exact FI.out

/-- An empty list made. -/
theorem Bld.lit {w w0 : World} (t : Touch (fun _ => False) w w0) : Bld w (w0.alloc (.cells #[] 4)) (some ⟨w0.heap.size, 0, Option.none⟩) 0 0 [] :=
  ⟨by
    have h : (w0.alloc (.cells #[] 4)).ownsRow w0.heap.size 4 1 (.slice (some ⟨w0.heap.size, 0, Option.none⟩) 0 0) 0 [] := World.ownsRow_made w0 #[] 0 (Nat.le_refl _) (by simp [maxLen]) rfl
    exact ⟨h.1, h.2.imp id (fun ⟨g, cap, cur, hv, _, r⟩ => ⟨g, cap, cur, hv, Nat.zero_le _, r⟩)⟩, fun k hk => by
      simp only [Value.ownBlock, Option.some.injEq] at hk
      have := t.size
      omega, t.trans (Touch.alloc _ _ _)⟩
/-- A part of a list, appended to what is being built. -/
theorem app_part {w wr : World} {a : Option Addr} {i cap : Nat} {l L : List Bool} (h : Bld w wr a i cap l) {g off m c : Nat} {cur : Array Value} (hi : i + m ≤ 1000)
    (hg : wr.heap[g]? = some (.cells cur 4 (0, 0))) (hL : L.length = m) (hc : ∀ j, j < m → cur[off + j]? = some (.bool (L.getD j false))) (hgw : g < w.heap.size) :
    ∃ a' cap' w2, (Builtin.append_ #[40, 40] 40 #[.slice a i cap, .slice (some ⟨g, off, Option.none⟩) m c]).run Try.prog wr = .ok (.slice a' (i + m) cap') w2 ∧ Bld w w2 a' (i + m) cap' (l ++ L) ∧ w2.heap[g]? = some (.cells cur 4 (0, 0)) := by
  obtain ⟨i4, hi4, hz, hs, hby⟩ := info_parts info4
  have hcells : ∀ j u, (bvals L)[j]? = some u → wr.cell? ((⟨g, off, Option.none⟩ : Addr).add j) = some u := fun j u hu => by
    have hj : j < L.length := by
      have := (List.getElem?_eq_some_iff.1 hu).1
      simpa [bvals] using this
    have h2 : u = .bool (L.getD j false) := by
      simp only [bvals, List.getElem?_map, List.getElem?_eq_getElem hj, Option.map_some, Option.some.injEq] at hu
      rw [← hu, List.getD_eq_getElem?_getD, List.getElem?_eq_getElem hj]; rfl
    rw [h2, Addr.add_lit, cell_of_row _ _ _ _ _ _ hg]
    exact hc j (by omega)
  have hone : ∀ u ∈ bvals L, u.oneCell' = true := by intro u hu; simp only [bvals, List.mem_map] at hu; obtain ⟨z, _, rfl⟩ := hu; rfl
  obtain ⟨v', w2, hap, ho2, hg2, hv2⟩ := run_append_own (P := Try.prog) wr 0 40 40 4 i4 (.bool false) 1 1 Try.underlying40 hi4 hz hs hby rfl (by decide) _ i (bvals l) h.own
    ⟨g, off, Option.none⟩ m c (bvals L) (by simp [bvals, hL]) hcells hone (by simp only [maxLen]; omega) (by omega) (by simp)
  have hnb := append_block (P := Try.prog) wr 0 40 40 4 i4 (.bool false) 1 1 Try.underlying40 hi4 hz hs hby rfl (by decide) _ i (bvals l) h.own
    ⟨g, off, Option.none⟩ m c (bvals L) (by simp [bvals, hL]) hcells hone (by simp only [maxLen]; omega) (by omega) hap
  have t : Touch (fun j => (Value.slice a i cap).ownBlock = some j) wr w2 := Touch.grown hg2 (fun j hj _ => hj)
  have tt : Touch (fun _ => False) w w2 := h.t.trans' t (fun _ _ h => h) (fun k hk hf => by have := h.off k hf; omega)
  have hgk : w2.heap[g]? = some (.cells cur 4 (0, 0)) := t.heap (fun hf => by have := h.off g hf; omega) hg
  have hoff : ∀ k, v'.ownBlock = some k → w.heap.size ≤ k := fun k hk => (hnb k hk).elim (h.off k) (fun h' => Nat.le_trans h.t.size h')
  have ho3 : w2.ownsRow 0 4 1 v' (i + m) (bvals (l ++ L)) := by
    have := ho2
    simpa [bvals] using this
  have hform : ∃ a' cap', v' = .slice a' (i + m) cap' := by
    rcases ho3.2 with ⟨hv, hn'⟩ | ⟨g3, cap3, cur3, hv, r⟩
    · exact ⟨Option.none, 0, by rw [hv, hn']⟩
    · exact ⟨_, _, hv⟩
  obtain ⟨a', cap', rfl⟩ := hform
  exact ⟨a', cap', w2, hap, ⟨ho3, hoff, tt⟩, hgk⟩
theorem step_append_part {w W : World} {ops : Array Oper} {o : Oper} {a : Act} {K : Act → World → Prop} {Q : Exit → Act → World → Prop} {E : Prop} (hgd : o.guard = Option.none) (s x : Operand)
    (ho : o.op = .call { callee := .builtin .append, args := #[s, x], argTypes := #[40, 40] }) (ht : o.type = 40) {av : Option Addr} {i cap : Nat} {l L : List Bool} {g off m c : Nat} {cur : Array Value}
    (hs : a.eval s = .slice av i cap) (hx : a.eval x = .slice (some ⟨g, off, Option.none⟩) m c) (hB : Bld w W av i cap l) (hi : i + m ≤ 1000)
    (hg : W.heap[g]? = some (.cells cur 4 (0, 0))) (hL : L.length = m) (hc : ∀ j, j < m → cur[off + j]? = some (.bool (L.getD j false))) (hgw : g < w.heap.size)
    (h : ∀ a' cap' w2, Bld w w2 a' (i + m) cap' (l ++ L) → w2.heap[g]? = some (.cells cur 4 (0, 0)) → K (a.put o.dst (.slice a' (i + m) cap')) w2) : if Region.wanted o (yielded ops a.tmps) = true then Oper.wp Try.prog o a W K Q else E := by
  obtain ⟨a', cap', w2, hap, b, hg2⟩ := app_part hB (c := c) hi hg hL hc hgw
  exact step_append_run hgd s x 40 40 ho hs hx (by rw [ht]; exact hap) (h a' cap' w2 b hg2)

section
variable (N x y : Nat) (h0 : 0 < N) (hn : N ≤ 64) (hx : x < 18446744073709551616) (hy : y < 18446744073709551616) (w : World)
include h0 hn hx hy

set_option maxRecDepth 100000 in
set_option maxHeartbeats 1000000 in
theorem ref_rotl : Calls Try.prog 11 #[.int .i64 13, .int .i64 N, .int .u64 x, .int .u64 y] w (R2 (x % 2 ^ N / 2 ^ (N - (y % 2 ^ N) % N) + 2 ^ ((y % 2 ^ N) % N) * (x % 2 ^ N % 2 ^ (N - (y % 2 ^ N) % N))) 0 w) := by
  have LA := Lib.hid (fun w => list_okC (w' := w) N x h0 hn hx w)
  have LB := Lib.hid (fun w => list_ok N y h0 hn hy w)
  have eN : IntKind.u64.wrap (N : Int) = (N : Int) := IntWalk.u64_in _ (by omega)
  have nN : ¬ (N : Int) = 0 := by omega
  have kK : (y % 2 ^ N) % N < N := Nat.mod_lt _ h0
  have hk : ((y % 2 ^ N : Nat) : Int) % (N : Int) = (((y % 2 ^ N) % N : Nat) : Int) := (Int.natCast_emod _ _).symm
  have KK := Lib.hid (show ∃ K, K = (y % 2 ^ N) % N from ⟨_, rfl⟩)
  obtain ⟨K, hK⟩ := KK.out
  rw [← hK] at hk kK
  have eK : IntKind.i64.wrap (K : Int) = (K : Int) := IntWalk.i64_in _ (by omega)
  have WA := wd_lst N x
  have WB := wd_lst N y
  have lA := lst_length N x
  have lB := lst_length N y
  have HK := Lib.hid hK
  have WO := fun (w : World) (v : Value) (B : Nat) (h : Bits w v (lst N y) B) => word_ok (lst N y) (by omega) h
  rw [WB] at WO
  obtain ⟨la, hla⟩ : ∃ l, l = lst N x := ⟨_, rfl⟩
  obtain ⟨lb, hlb⟩ : ∃ l, l = lst N y := ⟨_, rfl⟩
  rw [← hla] at WA lA
  rw [← hlb] at WB lB WO
  have HLA := hla.symm
  have HLB := hlb.symm
  have HH := Lib.hid (And.intro WA (And.intro WB (And.intro lA lB)))
  obtain ⟨Y, hY⟩ : ∃ Y, Y = y % 2 ^ N := ⟨_, rfl⟩
  rw [← hY] at WO hk
  have WO := Lib.hid WO
  have HY := Lib.hid hY
  clear hY
  have HLA2 := Lib.hid HLA
  have HLB2 := Lib.hid HLB
  clear WA WB lA lB hK hla hlb KK HLA HLB
  go_enter Try.func11, Try.ntmps11
  go_wp2_with fail
  refine (LA.out _).mono ?_
  rintro e w2 ⟨va, vm, vc, rfl, hcap, ba, t2⟩
  have CAP := Lib.hid hcap
  clear hcap
  rw [HLA2.out] at ba
  have BA := Lib.hid ba
  have T2 := Lib.hid t2
  clear ba t2
  go_wp2_with fail
  refine (LB.out _).mono ?_
  rintro e w3 ⟨vb, rfl, bb, t3⟩
  rw [HLB2.out] at bb
  have T3 := Lib.hid (T2.out.trans t3)
  have BA3 := Lib.hid (BA.out.fresh t3)
  have BB3 := Lib.hid bb
  clear t3 bb
  go_wp2_with fail
  refine (WO.out _ _ _ BB3.out).mono ?_
  rintro e w4 ⟨rfl, rfl⟩
  have hbx := BA3.out
  obtain ⟨g, cp, cur, hva, hB, hg, hc⟩ := hbx
  have hcell := bits_cell hg hc (N - 1) (by rw [HH.out.2.2.1]; omega)
  have lA := HH.out.2.2.1
  have hcap := CAP.out
  simp only [Value.slice.injEq] at hva
  obtain ⟨rfl, rfl, rfl⟩ := hva
  rw [lA] at hcap
  rw [lA]
  have HGR := hg
  have CUR := Lib.hid (show ∀ j, j < N → cur[j]? = some (.bool (la.getD j false)) from fun j hj => by
    have h1 := bits_cell hg hc j (by omega)
    rwa [cell_of_row _ _ _ _ _ _ hg] at h1)
  clear hg hc hB lA hcell
  have eN1 : IntKind.i64.wrap ((N : Int) - 1) = ((N - 1 : Nat) : Int) := by rw [IntWalk.i64_in _ (by omega)]; omega
  have eNK : IntKind.i64.wrap ((N : Int) - (K : Int)) = ((N - K : Nat) : Int) := by rw [IntWalk.i64_in _ (by omega)]; omega
  obtain ⟨OFF, hOFF⟩ : ∃ o, o = if vc = N - K then 0 else N - K := ⟨_, rfl⟩
  have hoff : (if vc = N - K then some ⟨g, 0, Option.none⟩ else some ⟨g, N - K, Option.none⟩ : Option Addr) = some ⟨g, OFF, Option.none⟩ := by rw [hOFF]; split <;> rfl
  have hlen : N - (N - K) = K := by omega
  have hsl1 : Hid (∀ j, j < K → cur[OFF + j]? = some (.bool ((la.drop (N - K)).getD j false))) := Lib.hid (fun j hj => by
    rw [getD_drop, hOFF, if_neg (by omega)]; exact CUR.out (N - K + j) (by omega))
  have hsl2 : Hid (∀ j, j < N - K → cur[0 + j]? = some (.bool ((la.take (N - K)).getD j false))) := Lib.hid (fun j hj => by
    rw [getD_take _ _ _ hj, Nat.zero_add]; exact CUR.out j (by omega))
  have GW := Lib.hid HGR
  clear hOFF HGR
  obtain ⟨r, hr⟩ : ∃ r, r = wd (la.drop (N - K) ++ la.take (N - K)) := ⟨_, rfl⟩
  have VV := Lib.hid (show r = x % 2 ^ N / 2 ^ (N - (y % 2 ^ N) % N) + 2 ^ ((y % 2 ^ N) % N) * (x % 2 ^ N % 2 ^ (N - (y % 2 ^ N) % N)) by
    rw [hr, wd_append, wd_drop_div la _ (by rw [HH.out.2.2.1]; omega), wd_take_mod la _ (by rw [HH.out.2.2.1]; omega), List.length_drop, HH.out.2.2.1, hlen, HH.out.1, HK.out])
  have WRD := Lib.hid (show ∀ (a2 : Option Addr) (c2 : Nat) (w6 : World), Bld w3 w6 a2 (0 + K + (N - K)) c2 ([] ++ la.drop (N - K) ++ la.take (N - K)) → Calls Try.prog 21 #[.slice a2 (K + (N - K)) c2] w6 (Ret w6 (.int .u64 (r : Int))) from fun a2 c2 w6 hb => by
    rw [Nat.zero_add, List.nil_append] at hb
    rw [hr]
    exact word_ok _ (by rw [List.length_append, List.length_drop, List.length_take, HH.out.2.2.1]; omega) (hb.done (by rw [List.length_append, List.length_drop, List.length_take, HH.out.2.2.1]; omega) (by omega)))
  clear hr
  have gw3 : g < w3.heap.size := (Array.getElem?_eq_some_iff.1 GW.out).1
  have L1 : (la.drop (N - K)).length = K := by rw [List.length_drop, HH.out.2.2.1]; exact hlen
  have L2 : (la.take (N - K)).length = N - K := by rw [List.length_take, HH.out.2.2.1]; omega
  have LL := Lib.hid (And.intro L1 L2)
  have hcap2 : N - K ≤ vc := by omega
  have hcap3 : N - K ≤ N := by omega
  clear L1 L2
  go_wp2_with fail
  go_region_law (first
    | (refine step_append_part (w := w3) (av := some ⟨w3.heap.size, 0, Option.none⟩) (i := 0) (cap := 0) (g := g) (off := OFF) (m := K) (c := vc - (N - K)) (cur := cur) (l := []) (L := la.drop (N - K)) (by rfl) (.tmp 154) (.tmp 159) (by rfl) (by rfl) (by simp [Act.eval, Act.put]) (by simp [Act.eval, Act.put]) (by first | exact (Bld.lit (Touch.refl _ _)).drew | exact Bld.lit (Touch.drew _ _)) (by omega) (by first | exact ((Touch.alloc (fun _ => False) w3 _).trans (Touch.drew _ _)).heap (fun h => h) GW.out | exact ((Touch.drew (fun _ => False) w3).trans (Touch.alloc _ _ _)).heap (fun h => h) GW.out) LL.out.1 hsl1.out gw3 ?_
       intro a1 c1 w5 b1 g1)
    | (refine step_append_part (w := w3) (av := a1) (i := 0 + K) (cap := c1) (g := g) (off := 0) (m := N - K) (c := vc) (cur := cur) (l := [] ++ la.drop (N - K)) (L := la.take (N - K)) (by rfl) (.tmp 160) (.tmp 165) (by rfl) (by rfl) (by simp [Act.eval, Act.put]) (by simp [Act.eval, Act.put]) b1 (by omega) g1 LL.out.2 hsl2.out gw3 ?_
       intro a2 c2 w6 b2 g2)
    | (go_simp
       go_at_call 21
       refine (WRD.out a2 c2 w6 b2).mono ?_
       rintro e w7 ⟨rfl, rfl⟩))
  all_goals
    have T6 := Lib.hid (T3.out.trans b2.t)
    clear b2 g2 b1 g1
    go_wp2_with fail
    go_ret2
    exact ⟨by rw [← VV.out]; rfl, T6.out⟩
end
end Go.Proofs.Ytphhgmeokmemlaa
