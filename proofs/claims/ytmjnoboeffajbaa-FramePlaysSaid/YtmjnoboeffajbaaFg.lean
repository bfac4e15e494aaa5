/- The document's example of frames; what is pushed is popped: the walk. -/
import Derived.Test.YtmjnoboeffajbaaFf
import Derived.DataShut
namespace Go.Proofs.Ytmjnoboeffajbaa
open Go.RowKit Go.Maps
set_option linter.unusedSimpArgs false
set_option linter.unusedVariables false

theorem FChg.below {q p : Nat} {R : Rp} {B : Nat} {w w' : World} (t : Touch (fun k => k = q ∨ k = R.buf) w w') (hB : B ≤ w.heap.size) (hq : B ≤ q) (F : From B p R) : Below B w w' := SChg.below t hB hq F

theorem cls60 : cls 60 = 64 := by decide
theorem cls1200 : cls 1200 = 2048 := by decide
theorem cls1440 : cls 1440 = 2048 := by decide

set_option maxRecDepth 100000 in
set_option maxHeartbeats 1000000 in
theorem fawake_any (w : World) : Calls Try.prog 35 #[] w fun e w' => e = .returned (.bool true) ∧ Below w.heap.size w w' := by
  go_enter Try.func35, Try.ntmps35
  go_wp2_with fail
  refine (new_ok 1000 w (by omega)).mono ?_
  rintro e w1 ⟨p, R1, rfl, s1, f1, t1⟩
  have b1 : Below w.heap.size w w1 := t1.toBelow (Nat.le_refl _) (fun _ h => h.elim)
  have F1 : From w.heap.size p R1 := f1
  have MK := Lib.hid (fnew s1 5 (by omega) (by omega) 64 cls60 rfl (by decide) (good_zeros _) (by decide) (by decide))
  clear t1 f1 s1
  go_wp2_with fail
  refine MK.out.mono ?_
  rintro e w2 ⟨q, R2, rfl, on2, st2, hq⟩
  have F2 := F1.step st2 b1.size
  have b2 := b1.trans (st2.below F1 b1.size)
  have hq2 : w.heap.size ≤ q := Nat.le_trans b1.size hq
  clear st2 MK F1 b1 hq
  have hS : ∃ S2 A2, S2.cells = 5 ∧ FOn w2 q p S2 A2 R2 [] := ⟨_, _, rfl, on2⟩
  clear on2
  obtain ⟨S2, A2, hc2, on2⟩ := hS
  have PU := Lib.hid (fpush on2 ⟨1, 2, 3⟩ (by simp [Fm.ok]) (by simp [hc2]))
  clear on2 hc2
  go_wp2_with fail
  refine PU.out.mono ?_
  rintro e w4 ⟨S4, b', rfl, o1, o2, on4, t4⟩
  have b4 := b2.trans (FChg.below t4 b2.size hq2 F2)
  have UW := Lib.hid (fgo (m := []) (x := ⟨1, 2, 3⟩) on4 9 (by omega))
  clear on4 t4 b2 PU o1 o2
  go_wp2_with fail
  refine UW.out.mono ?_
  rintro e w5 ⟨S5, b5', rfl, o1, o2, on5, t5⟩
  have b5 := b4.trans (FChg.below t5 b4.size hq2 F2)
  have PO := Lib.hid (ftop_ok (m' := []) on5)
  unfold Fm.cells at PO
  clear on5 t5 b4 UW o1 o2
  go_wp2_with fail
  refine PO.out.mono ?_
  rintro e w6 ⟨rfl, t6⟩
  have b6 := b5.trans (t6.toBelow b5.size (fun _ h => h.elim))
  go_wp2_with fail
  go_ret
  exact ⟨rfl, b6.trans ((Touch.alloc (fun _ => False) w6 _).toBelow b6.size (fun _ h => h.elim))⟩

theorem u16_range {n : Int} (h : (Lit.int .u16 n).wf = true) : 0 ≤ n ∧ n < 65536 := by
  have := (Lit.wf_int_iff _ _).1 h
  rw [show IntKind.min .u16 = 0 by decide, show IntKind.max .u16 = 65535 by decide] at this
  omega

/-- The number at a place of a slice that came in. -/
theorem IsRow.half {w w' : World} {a : Option Addr} {len cap : Nat} {zs : List Int} (h : IsRow .u16 w a len cap zs) (b : Below w.heap.size w w') {i : Nat} (hi : i < len) :
    ∃ g off, a = some ⟨g, off, Option.none⟩ ∧ g < w.heap.size ∧ w'.cell? ⟨g, off + i, Option.none⟩ = some (.int .u16 (((zs.getD i 0).toNat : Nat) : Int)) ∧ (zs.getD i 0).toNat < 65536 := by
  obtain ⟨g, off, ha, hg, hc, hw⟩ := IsRow.at h b hi
  have hr := u16_range hw
  refine ⟨g, off, ha, hg, ?_, by omega⟩
  rw [hc, show (((zs.getD i 0).toNat : Nat) : Int) = zs.getD i 0 by omega]

def ordF (z : List Int) (i : Nat) : Fm := ⟨i, (z.getD i 0).toNat, 2 * i⟩
def ords (z : List Int) (n : Nat) : List Fm := (List.range n).map (ordF z)
theorem ords_length (z : List Int) (n : Nat) : (ords z n).length = n := by simp [ords]
theorem ords_succ (z : List Int) (n : Nat) : ords z (n + 1) = ords z n ++ [ordF z n] := by simp [ords, List.range_succ]

set_option maxRecDepth 100000 in
set_option maxHeartbeats 2000000 in
theorem forder_walk (a0 : Option Addr) (len0 cap0 : Nat) (z0 : List Int) (w : World) (w0 : IsRow .u16 w a0 len0 cap0 z0) :
    Calls Try.prog 9 #[.slice a0 len0 cap0] w fun e w' => e = .returned (.bool true) ∧ Below w.heap.size w w' := by
  have W0 := Lib.hid w0
  clear w0
  by_cases hlen : 100 < len0
  · go_enter Try.func9, Try.ntmps9
    go_wp2_with fail
    refine (fawake_any w).mono ?_
    rintro e w2 ⟨rfl, b2⟩
    go_wp2_with fail
    go_ret
    exact ⟨rfl, b2⟩
  · go_enter Try.func9, Try.ntmps9
    go_wp2_with fail
    refine (fawake_any w).mono ?_
    rintro e w2 ⟨rfl, b2⟩
    go_wp2_with fail
    refine (new_ok 2048 w2 (by omega)).mono ?_
    rintro e w3 ⟨p, R3, rfl, s3, f3, t3⟩
    have b3 : Below w.heap.size w w3 := b2.trans (t3.toBelow b2.size (fun _ h => h.elim))
    have F3 : From w.heap.size p R3 := fun k hk => Nat.le_trans b2.size (f3 k hk)
    have MK := Lib.hid (fnew s3 100 (by omega) (by omega) 2048 cls1200 rfl (by decide) (good_zeros _) (by decide) (by decide))
    clear t3 b2 f3 s3
    go_wp2_with fail
    refine MK.out.mono ?_
    rintro e w4 ⟨q, R, rfl, on4, st4, hq⟩
    have F := F3.step st4 b3.size
    have b4 := b3.trans (st4.below F3 b3.size)
    have hq4 : w.heap.size ≤ q := Nat.le_trans b3.size hq
    clear st4 MK F3 b3 hq
    have hS : ∃ S A, S.cells = 100 ∧ FOn w4 q p S A R [] := ⟨_, _, rfl, on4⟩
    clear on4
    obtain ⟨S4, A4, hc4, on4⟩ := hS
    go_wp2_with fail
    go_loopw [7] (fun j wr => ∃ (i : Nat) (S : Sk) (A : Ar), j = .int .i64 i ∧ i ≤ len0 ∧ S.cells = 100 ∧ FOn wr q p S A R (ords z0 i) ∧ Below w.heap.size w wr) (fun j _ => len0 - (intOf j).toNat)
    case atStart => exact ⟨0, S4, A4, rfl, Nat.zero_le _, hc4, on4, b4⟩
    case round =>
      clear hc4 on4 b4
      obtain ⟨i, S, A, rfl, hi, hc, on, b⟩ := hrel
      by_cases hlt : i < len0
      · obtain ⟨g, off, rfl, hg, hcell, hv⟩ := IsRow.half W0.out b hlt
        have hsucc := ords_succ z0 i
        have hL := ords_length z0 i
        unfold ordF at hsucc
        generalize (z0.getD i 0).toNat = v at *
        have e1 : IntKind.i64.wrap (2 * (i : Int)) = 2 * (i : Int) := IntWalk.i64_in _ (by omega)
        have e2 : IntKind.i64.wrap (v : Int) = (v : Int) := IntWalk.i64_in _ (by omega)
        have PU := fpush on ⟨i, v, 2 * i⟩ (by simp only [Fm.ok]; omega) (by rw [hL, hc]; omega)
        rw [← hsucc] at PU
        unfold Fm.cells at PU
        rw [show ((2 * i : Nat) : Int) = 2 * (i : Int) by omega] at PU
        have PU2 := Lib.hid PU
        have HC := Lib.hid hc
        clear hsucc hL PU on hc
        go_wp2_with fail
        refine PU2.out.mono ?_
        rintro e w6 ⟨S6, b', rfl, o1, o2, on6, t6⟩
        have b6 := b.trans (FChg.below t6 b.size hq4 F)
        have hc6 : S6.cells = 100 := by rw [o2]; exact HC.out
        clear t6 b o1 o2 PU2
        go_wp2_with fail
        go_roundw
        case rel => exact ⟨i + 1, S6, _, by go_num, by omega, hc6, on6, b6⟩
        case measure => simp [intOf]; omega
      · obtain rfl : i = len0 := by omega
        clear hlt hi
        go_wp2_with fail
        go_loopw [8] (fun j wr => ∃ (k : Nat) (S : Sk) (A : Ar), j = .int .i64 ((k : Int) - 1) ∧ k ≤ i ∧ FOn wr q p S A R (ords z0 k) ∧ Below w.heap.size w wr) (fun j _ => (intOf j + 1).toNat)
        case atStart => exact ⟨i, S, A, rfl, Nat.le_refl _, on, b⟩
        case round =>
          clear on b hc
          obtain ⟨k, S, A, rfl, hk, on, b⟩ := hrel
          by_cases h0 : 0 < k
          · obtain ⟨k, rfl⟩ : ∃ j, k = j + 1 := ⟨k - 1, by omega⟩
            have c3 : ((k + 1 : Nat) : Int) - 1 = (k : Int) := by omega
            rw [c3]
            have hsucc := ords_succ z0 k
            obtain ⟨g, off, ha, hg, hcell0, hv⟩ := IsRow.half W0.out b (show k < i by omega)
            subst ha
            rw [hsucc] at on
            have PO := fpop on
            unfold ordF Fm.cells at PO
            rw [show ((2 * k : Nat) : Int) = 2 * (k : Int) by omega] at PO
            have PO2 := Lib.hid PO
            have HCELL := Lib.hid (fun (w6 : World) (b6 : Below w.heap.size w w6) => IsRow.half W0.out b6 (show k < i by omega))
            clear hsucc on hcell0 hv c3 PO
            go_wp2_with fail
            refine PO2.out.mono ?_
            rintro e w6 ⟨S6, b', rfl, o1, o2, on6, t6⟩
            have b6 := b.trans (FChg.below t6 b.size hq4 F)
            obtain ⟨g', off', ha', hg', hcell, hv⟩ := HCELL.out w6 b6
            cases ha'
            generalize (z0.getD k 0).toNat = v at *
            have e1 : IntKind.i64.wrap (2 * (k : Int)) = 2 * (k : Int) := IntWalk.i64_in _ (by omega)
            have e2 : IntKind.i64.wrap (v : Int) = (v : Int) := IntWalk.i64_in _ (by omega)
            have tB : Touch (fun _ => False) w6 (w6.alloc (.cells #[.int .i64 k, .int .i64 v, .int .i64 (2 * (k : Int))] 69)) := Touch.alloc _ _ _
            have on7 := on6.fresh tB
            have b7 := b6.trans (tB.toBelow b6.size (fun _ h => h.elim))
            have gl : g < w6.heap.size := Nat.lt_of_lt_of_le hg b6.size
            clear t6 b o1 o2 PO2 HCELL on6 tB b6
            go_wp2_with fail
            go_quiet (fail)
            have on8 := on7.fresh (Touch.drewN _ _ nq)
            have b8 := b7.trans ((Touch.drewN (fun _ => False) _ nq).toBelow b7.size (fun _ h => h.elim))
            go_wp2_with fail
            go_roundw
            case rel => exact ⟨k, S6, _, rfl, by omega, on8, b8⟩
            case measure => simp [intOf]
          · obtain rfl : k = 0 := by omega
            have PE := Lib.hid (fdepth_ok on.fr on.cl)
            have hh := on.has.len
            have e0 : S.h = 0 := by rw [← hh]; rfl
            rw [e0] at PE
            clear on hh e0
            go_wp2_with fail
            refine PE.out.mono ?_
            rintro e w6 ⟨rfl, rfl⟩
            go_wp2_with fail
            go_ret
            exact ⟨rfl, b⟩
end Go.Proofs.Ytmjnoboeffajbaa
