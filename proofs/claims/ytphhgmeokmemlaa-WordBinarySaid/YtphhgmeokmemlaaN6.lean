/- The document's division of lists: the walk. -/
import Derived.Test.YtphhgmeokmemlaaN5
namespace Go.Proofs.Ytphhgmeokmemlaa
open Go.RowKit Go.Maps
set_option linter.unusedSimpArgs false
set_option linter.unusedVariables false

variable {w w' wr : World}

structure DInv (w4 wr : World) (gq : Nat) (a b Q R : List Bool) (n i : Nat) (vr : Value) : Prop where
  t : Touch (· = gq) w4 wr
  q : wr.heap[gq]? = some (.cells (bvals Q).toArray 4 (0, 0))
  r : Bits wr vr R (gq + 1)
  lq : Q.length = n
  lr : R.length = n + 1
  z : ∀ j, j < i → Q.getD j false = false
  eq : wd (a.drop i) = wd b * wd (Q.drop i) + wd R
  lt : wd R < wd b
  cp : ∃ a m c, vr = .slice a m c ∧ m ≤ c

theorem div_arith (A A' B Q' R c e R' : Nat) (h1 : A = 2 * A' + c) (h2 : A' = B * Q' + R) (h3 : R' + B * e = 2 * R + c) : A = B * (2 * Q' + e) + R' := by
  rw [Nat.mul_add, h1, h2, Nat.mul_add, Nat.mul_left_comm B 2]
  omega
theorem sub_mod (x y m : Nat) (h1 : y ≤ x) (h2 : x < m) (h3 : 0 < y) : (x + (m - y)) % m = x - y := by
  rw [show x + (m - y) = (x - y) + m by omega, Nat.add_mod_right, Nat.mod_eq_of_lt (by omega)]

theorem q_set {gq : Nat} {Q : List Bool} (h : wr.heap[gq]? = some (.cells (bvals Q).toArray 4 (0, 0))) (k : Nat) (x : Bool) :
    (wr.setCell ⟨gq, k, Option.none⟩ (.bool x)).heap[gq]? = some (.cells (bvals (Q.set k x)).toArray 4 (0, 0)) := by
  simp [World.setCell, Array.getElem?_modify, h, bvals, List.map_set]
theorem q_cell {gq : Nat} {Q : List Bool} (h : wr.heap[gq]? = some (.cells (bvals Q).toArray 4 (0, 0))) (k : Nat) (hk : k < Q.length) : wr.cell? ⟨gq, k, Option.none⟩ = some (.bool (Q.getD k false)) :=
  bits_cell h (by rw [List.take_of_length_le (by simp)]) k hk

set_option maxRecDepth 100000 in
set_option maxHeartbeats 400000 in
theorem divide_ok (a b : List Bool) (n : Nat) (ha : a.length = n) (hb : b.length = n) (h0 : 0 < n) (hn : n ≤ 99) (hb0 : wd b ≠ 0) {v u : Value} {B C : Nat} (hv : Bits w v a B) (hu : Bits w u b C) :
    Calls Try.prog 27 #[v, u] w (DivPost n (wd a / wd b) (wd a % wd b) w) := by
  obtain ⟨g, cap, cur, rfl, hB1, hg, hc⟩ := hv
  have gl : g < w.heap.size := (Array.getElem?_eq_some_iff.1 hg).1
  have hu0 := hu
  obtain ⟨g2, cap2, cur2, rfl, _, hg2, _⟩ := hu0
  have hmk1 := fun w => run_make40 n (by omega) w
  have hmk2 := fun w => run_make40 (n + 1) (by omega) w
  rw [show ((n + 1 : Nat) : Int) = (n : Int) + 1 by omega] at hmk2
  have ew : IntKind.i64.wrap ((n : Int) + 1) = (n : Int) + 1 := IntWalk.i64_in _ (by omega)
  have M1 := Bits.made n w
  have M2 := Bits.made (n + 1) (w.alloc (.cells (Array.replicate n (.bool false)) 4))
  have t1 : Touch (fun _ => False) w (w.alloc (.cells (Array.replicate n (.bool false)) 4)) := Touch.alloc _ _ _
  have t2 : Touch (fun _ => False) w ((w.alloc (.cells (Array.replicate n (.bool false)) 4)).alloc (.cells (Array.replicate (n + 1) (.bool false)) 4)) := t1.trans (Touch.alloc _ _ _)
  rw [hb] at hu
  obtain ⟨a1, c1, w3, hap1, bl1⟩ := copy_b (hu.fresh t2) (by omega) h0
  obtain ⟨a2, c2, w4, hap2, bl2⟩ := bl1.app (by omega) false
  rw [show ((w.alloc (.cells (Array.replicate n (.bool false)) 4)).alloc (.cells (Array.replicate (n + 1) (.bool false)) 4)).heap.size = w.heap.size + 1 + 1 by simp] at hap1
  have HAP1 := Lib.hid hap1
  have HAP2 := Lib.hid hap2
  have t4 : Touch (fun _ => False) w w4 := t2.trans bl2.t
  have hq4 : w4.heap[w.heap.size]? = some (.cells (bvals (List.replicate n false)).toArray 4 (0, 0)) := by
    have h1 := (MapKept.heap_alloc w (.cells (Array.replicate n (.bool false)) 4)).1
    have h2 := ((Touch.alloc (fun _ => False) _ (.cells (Array.replicate (n + 1) (.bool false)) 4)).trans bl2.t).heap (fun h => h) h1
    rw [h2]; simp
  have hr4 : Bits w4 (.slice (some ⟨w.heap.size + 1, 0, Option.none⟩) (n + 1) (n + 1)) (List.replicate (n + 1) false) (w.heap.size + 1) := by
    have := M2.fresh bl2.t
    simpa using this
  have hd4 : Bits w4 (.slice a2 (n + 1) c2) (b ++ [false]) (w.heap.size + 1) := (bl2.done (by simp [hb]) (by omega)).low (by simp)
  have CA := Lib.hid (fun (w' : World) (t : Touch (· = w.heap.size) w w') i hi => bits_cell (t.heap (by omega) hg) hc i hi)
  rw [ha] at CA ⊢
  have Lq : w.heap.size < w4.heap.size := (Array.getElem?_eq_some_iff.1 hq4).1
  have hdx := hd4
  obtain ⟨gd, cd, curd, hvd, hBd, hgd, hcd⟩ := hdx
  have Ld : gd < w4.heap.size := (Array.getElem?_eq_some_iff.1 hgd).1
  have DB := Lib.hid (fun (w' : World) (h : w'.heap[gd]? = some (.cells curd 4 (0, 0))) => (show Bits w' (.slice a2 (n + 1) c2) (b ++ [false]) 0 from ⟨gd, cd, curd, hvd, Nat.zero_le _, h, hcd⟩))
  have HGD := Lib.hid hgd
  clear hvd hcd hgd
  have H4 := Lib.hid (And.intro t4 (And.intro hq4 (And.intro hr4 hd4)))
  have HL := Lib.hid (And.intro ha hb)
  have HD := Lib.hid (show wd (b ++ [false]) = wd b by rw [wd_append, wd_one]; simp [b1])
  have HB0 := Lib.hid hb0
  clear hap1 hap2 bl1 bl2 t1 t2 t4 hq4 hr4 hd4 M1 M2 hg hc hu hB1 hg2 ha hb hb0
  rw [HL.out.2] 
  go_enter Try.func27, Try.ntmps27
  go_wp2_with (at_builtin; first | refine wpList_append_run rfl (.tmp 18) (.tmp 19) 40 40 rfl (by simp [Act.eval, Act.put]) (by simp [Act.eval, Act.put]) HAP1.out ?_ | refine wpList_append_run rfl (.tmp 20) (.tmp 21) 40 40 rfl (by simp [Act.eval, Act.put]) (by simp [Act.eval, Act.put]) HAP2.out ?_)
  clear HAP1 HAP2 hmk1 hmk2
  go_loopw [8, 10] (fun vr j wr => ∃ (i : Nat) (Q R : List Bool), j = .int .i64 ((i : Int) - 1) ∧ i ≤ n ∧ Hid (DInv w4 wr w.heap.size a b Q R n i vr)) (fun _ j _ => (intOf j + 1).toNat)
  case atStart =>
    refine ⟨n, List.replicate n false, List.replicate (n + 1) false, rfl, Nat.le_refl _, ⟨Touch.refl _ _, H4.out.2.1, H4.out.2.2.1, by simp, by simp, fun j hj => getD_rep n j false hj, ?_, ?_, ⟨_, _, _, rfl, Nat.le_refl _⟩⟩⟩
    · rw [List.drop_of_length_le (by rw [HL.out.1]; exact Nat.le_refl _), List.drop_of_length_le (by simp), wd_none]; rfl
    · rw [wd_none]; exact Nat.pos_of_ne_zero HB0.out
  case round =>
    obtain ⟨i, Q, R, rfl, hi, HI⟩ := hrel
    by_cases hpos : 0 < i
    · obtain ⟨k, rfl⟩ : ∃ j, i = j + 1 := ⟨i - 1, by omega⟩
      have c3 : ((k + 1 : Nat) : Int) - 1 = (k : Int) := by omega
      rw [c3]
      have L4 := H4.out.1.size
      have LW := HI.out.t.size
      have bl := wd_lt b
      rw [HL.out.2] at bl
      have hR := HI.out.lt
      have e2 : (2 : Nat) ^ (n + 1) = 2 * 2 ^ n := by rw [Nat.pow_succ]; omega
      have w1 : wd (shlL R 1 (n + 1)) = 2 * wd R := by
        rw [wd_shl R 1 (n + 1) HI.out.lr (by omega), e2, Nat.mod_eq_of_lt (by omega)]; omega
      have l1 : (shlL R 1 (n + 1)).length = n + 1 := shlL_length R 1 (n + 1) HI.out.lr (by omega)
      have g1 : (shlL R 1 (n + 1)).getD 0 false = false := by simp [shlL]
      have SH := Lib.hid (shl_okC R 1 (n + 1) HI.out.lr (by omega) (by omega) (by omega) HI.out.r)
      have W1 := Lib.hid (And.intro w1 (And.intro l1 g1))
      have E2 := Lib.hid e2
      have BL := Lib.hid bl
      have HR := Lib.hid hR
      generalize shlL R 1 (n + 1) = R1 at *
      clear w1 l1 g1 e2 bl hR c3
      go_wp2_with fail
      refine SH.out.mono ?_
      rintro e w5 ⟨xa, xm, xc, rfl, hxc, bx, t5⟩
      obtain ⟨g5, c5, cur5, hx5, hB5, hg5, hc5⟩ := bx
      simp only [Value.slice.injEq] at hx5
      obtain ⟨rfl, rfl, rfl⟩ := hx5
      rw [W1.out.2.1] at hxc
      have HXC := Lib.hid hxc
      clear hxc
      have bx5 : Bits w5 (.slice (some ⟨g5, 0, Option.none⟩) (n + 1) xc) R1 wr.heap.size := by
        have h : Bits w5 (.slice (some ⟨g5, 0, Option.none⟩) R1.length xc) R1 wr.heap.size := ⟨g5, xc, cur5, rfl, hB5, hg5, hc5⟩
        rwa [W1.out.2.1] at h
      rw [W1.out.2.1]
      have t45 : Touch (· = w.heap.size) w4 w5 := HI.out.t.trans' t5 (fun _ _ h => h) (fun _ _ h => h.elim)
      have tw5 : Touch (· = w.heap.size) w w5 := H4.out.1.trans' t45 (fun _ _ h => h.elim) (fun _ _ h => h)
      have ca := CA.out w5 tw5 k (by omega)
      obtain ⟨bs, ts, hge, hnl, ⟨u0, hu0⟩, hfz, hlt5⟩ := bx5.set 0 (by rw [W1.out.2.1]; omega) (a.getD k false)
      have q5 := t5.heap (fun h => h) HI.out.q
      have hgne : ¬ w.heap.size = g5 := by omega
      have q6 := ts.heap hgne q5
      have hd6 := ts.heap (show ¬ gd = g5 by omega) (t45.heap (show ¬ gd = w.heap.size by omega) HGD.out)
      have ws : wd (R1.set 0 (a.getD k false)) = 2 * wd R + b1 (a.getD k false) := by rw [wd_set0 R1 (by rw [W1.out.2.1]; omega) W1.out.2.2, W1.out.1]
      have lR1 : (R1.set 0 (a.getD k false)).length = n + 1 := by rw [List.length_set]; exact W1.out.2.1
      have hb1 : b1 (a.getD k false) ≤ 1 := by unfold b1; split <;> omega
      have hA := wd_drop_next a k (by rw [HL.out.1]; omega)
      have hQ := wd_drop_next Q k (by rw [HI.out.lq]; omega)
      rw [HI.out.z k (by omega)] at hQ
      have LS := Lib.hid (lless_long (R1.set 0 (a.getD k false)) (b ++ [false]) (by omega) (by simp [HL.out.2]; omega) bs (DB.out _ hd6))
      have S6 := Lib.hid (And.intro bs (And.intro q6 (And.intro hd6 (And.intro (t45.trans' ts (H := fun j => j = w.heap.size) (fun _ _ h => h) (fun i hi h => by omega)) (And.intro hA (And.intro hQ (And.intro ws lR1)))))))
      have DZ := HI.out.z
      have DQ := Lib.hid (And.intro HI.out.lq (And.intro HI.out.eq DZ))
      rw [HD.out] at LS
      generalize R1.set 0 (a.getD k false) = R2 at *
      generalize a.getD k false = ak at *
      clear bs q6 hd6 ts hA hQ q5 hg5 hc5 bx5 SH DZ t45 tw5 t5 hnl ws lR1
      go_wp2_with fail
      refine LS.out.mono ?_
      rintro e w7 ⟨rfl, m7, rfl⟩
      have b7 := S6.out.1.fresh (Touch.drewN _ _ m7)
      have q7 := (Touch.drewN (fun _ => False) (w5.setCell ⟨g5, 0, Option.none⟩ (.bool ak)) m7).heap (fun h => h) S6.out.2.1
      have d7 := DB.out _ ((Touch.drewN (fun _ => False) (w5.setCell ⟨g5, 0, Option.none⟩ (.bool ak)) m7).heap (fun h => h) S6.out.2.2.1)
      have t7 := S6.out.2.2.2.1.trans (Touch.drewN _ (w5.setCell ⟨g5, 0, Option.none⟩ (.bool ak)) m7)
      have P6 := Lib.hid (And.intro S6.out.2.2.2.2.1 (And.intro S6.out.2.2.2.2.2.1 (And.intro S6.out.2.2.2.2.2.2.1 S6.out.2.2.2.2.2.2.2)))
      generalize (w5.setCell ⟨g5, 0, Option.none⟩ (.bool ak)).drewN m7 = w8 at *
      have K7 := Lib.hid (And.intro b7 (And.intro q7 (And.intro d7 t7)))
      by_cases hlt : wd R2 < wd b
      · rw [show decide (wd R2 < wd b) = true by simpa using hlt]
        have HX := Lib.hid hlt
        clear hlt b7 q7 d7 t7 S6 LS
        go_wp2_with fail
        have NX : Hid (DInv w4 w8 w.heap.size a b Q R2 n k (.slice (some ⟨g5, 0, Option.none⟩) (n + 1) xc)) := Lib.hid
          ⟨K7.out.2.2.2, K7.out.2.1, K7.out.1.low (by omega), DQ.out.1, P6.out.2.2.2, fun j hj => DQ.out.2.2 j (by omega), by
            have h1 := P6.out.1
            have h2 := P6.out.2.1
            have h3 := P6.out.2.2.1
            have h4 := DQ.out.2.1
            rw [h2]
            exact div_arith _ _ _ _ _ _ (b1 false) _ h1 h4 (by rw [h3, show b1 false = 0 from rfl, Nat.mul_zero, Nat.add_zero]), HX.out, ⟨_, _, _, rfl, HXC.out⟩⟩
        go_roundw
        case rel => exact ⟨k, Q, R2, rfl, by omega, NX⟩
        case measure => simp [intOf]
      · rw [show decide (wd R2 < wd b) = false by simpa using hlt]
        have HX := Lib.hid hlt
        have MN := Lib.hid (minus_okC R2 (b ++ [false]) (n + 1) P6.out.2.2.2 (by simp [HL.out.2]) (by omega) (by omega) K7.out.1 K7.out.2.2.1)
        clear hlt b7 q7 d7 t7 S6 LS
        go_wp2_with fail
        refine MN.out.mono ?_
        rintro e w9 ⟨ya, ym, yc, rfl, hyc, by9, t9⟩
        have HYC := Lib.hid hyc
        clear hyc
        have hpos : 0 < wd b := Nat.pos_of_ne_zero HB0.out
        have vm : wd (minusL R2 (b ++ [false]) (n + 1)) = wd R2 - wd b := by
          have lb := wd_lt R2
          rw [P6.out.2.2.2] at lb
          rw [wd_minus R2 (b ++ [false]) (n + 1) P6.out.2.2.2 (by simp [HL.out.2]), HD.out]
          exact sub_mod _ _ _ (Nat.le_of_not_lt HX.out) lb hpos
        have hqs : wd ((Q.set k true).drop k) = 2 * wd (Q.drop (k + 1)) + b1 true := by
          rw [wd_drop_next (Q.set k true) k (by rw [List.length_set, DQ.out.1]; omega), drop_set_ge]
          congr 2
          rw [List.getD_eq_getElem?_getD, List.getElem?_set_self (by rw [DQ.out.1]; omega)]; rfl
        have VM := Lib.hid (And.intro vm hqs)
        clear vm hqs
        have q9 := t9.heap (fun h => h) K7.out.2.1
        have qc := q_cell q9 k (by rw [DQ.out.1]; omega)
        have qf : w9.frozen? ⟨w.heap.size, k, Option.none⟩ = false := by simp [World.frozen?, q9]
        have q10 := q_set q9 k true
        have L8 := t9.size
        have L7 := K7.out.2.2.2.size
        have tq : Touch (· = w.heap.size) w9 (w9.setCell ⟨w.heap.size, k, Option.none⟩ (.bool true)) := Touch.cell1 _ _ _ _
        have NX : Hid (DInv w4 (w9.setCell ⟨w.heap.size, k, Option.none⟩ (.bool true)) w.heap.size a b (Q.set k true) (minusL R2 (b ++ [false]) (n + 1)) n k (.slice ya ym yc)) := Lib.hid
          ⟨(K7.out.2.2.2.trans' t9 (fun _ _ h => h) (fun _ _ h => h.elim)).trans tq, q10, (by9.kept tq (fun j hj e => by omega)).low (by omega), by rw [List.length_set]; exact DQ.out.1, minusL_length _ _ _, fun j hj => by
            rw [List.getD_eq_getElem?_getD, List.getElem?_set_ne (by omega), ← List.getD_eq_getElem?_getD]
            exact DQ.out.2.2 j (by omega), by
            have h1 := P6.out.1
            have h3 := P6.out.2.2.1
            have h4 := DQ.out.2.1
            have h5 := HX.out
            rw [VM.out.2, VM.out.1]
            exact div_arith _ _ _ _ _ _ (b1 true) _ h1 h4 (by rw [show b1 true = 1 from rfl, Nat.mul_one, ← h3]; omega), by
            have h3 := P6.out.2.2.1
            have h5 := HX.out
            have h6 := HR.out
            rw [VM.out.1]; omega, ⟨_, _, _, rfl, HYC.out⟩⟩
        clear q9 q10 tq by9 t9 MN
        go_wp2_with fail
        go_roundw
        case rel => exact ⟨k, _, _, rfl, by omega, NX⟩
        case measure => simp [intOf]
    · obtain rfl : i = 0 := by omega
      have L4 := H4.out.1.size
      obtain ⟨g5, c5, cur5, hvr, hB5, hg5, hc5⟩ := HI.out.r
      obtain ⟨xa, xm, xc, hvc, hcap⟩ := HI.out.cp
      rw [hvr] at hvc
      simp only [Value.slice.injEq] at hvc
      obtain ⟨rfl, rfl, rfl⟩ := hvc
      subst hvr
      have hlr := HI.out.lr
      have heq := HI.out.eq
      have hlt := HI.out.lt
      rw [List.drop_zero, List.drop_zero] at heq
      have bl := wd_lt b
      rw [HL.out.2] at bl
      have hQ : wd Q = wd a / wd b := by
        rw [heq, Nat.mul_add_div (Nat.pos_of_ne_zero HB0.out), Nat.div_eq_of_lt hlt, Nat.add_zero]
      have hR : wd (R.take n) = wd a % wd b := by
        rw [wd_take_mod R n (by omega), Nat.mod_eq_of_lt (by omega), heq, Nat.mul_add_mod, Nat.mod_eq_of_lt hlt]
      have tF : Touch (fun _ => False) w wr := H4.out.1.trans' HI.out.t (fun _ _ h => h) (fun i hi h => by omega)
      have FIN : ∀ m, DivPost n (wd a / wd b) (wd a % wd b) w (.returned (.tuple #[.slice (some ⟨w.heap.size, 0, Option.none⟩) n n, .slice (some ⟨g5, 0, Option.none⟩) n c5])) (wr.drewN m) := fun m => by
        have td : Touch (fun _ => False) wr (wr.drewN m) := Touch.drewN _ _ _
        refine ⟨_, _, Q, R.take n, rfl, HI.out.lq, by rw [List.length_take]; omega, hQ, hR, ?_, ?_, tF.trans td⟩
        · refine ⟨w.heap.size, n, _, by rw [HI.out.lq], Nat.le_refl _, td.heap (fun h => h) HI.out.q, ?_⟩
          rw [List.take_of_length_le (by simp [HI.out.lq])]
        · refine ⟨g5, c5, cur5, by rw [List.length_take]; congr 1; omega, by omega, td.heap (fun h => h) hg5, ?_⟩
          rw [List.length_take, Nat.min_eq_left (by omega)]
          have h9 : (cur5.toList.take R.length).take n = (bvals R).take n := by rw [hc5]
          rw [List.take_take, Nat.min_eq_left (by omega)] at h9
          rw [h9]; simp [bvals, List.map_take]
      have FI := Lib.hid FIN
      have hc5l : n ≤ c5 := by omega
      rw [hlr]
      clear hlr
      clear FIN hQ hR bl heq hlt hc5 hg5 HI tF hcap
      go_wp2_with fail
      go_quiet (fail)
      go_wp2_with fail
      go_ret2
      exact FI.out nq
end Go.Proofs.Ytphhgmeokmemlaa
