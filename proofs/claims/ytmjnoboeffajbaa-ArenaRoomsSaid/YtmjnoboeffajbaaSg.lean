/- What is pushed is popped: the walk. -/
import Derived.Test.YtmjnoboeffajbaaSf
import Derived.DataShut
namespace Go.Proofs.Ytmjnoboeffajbaa
open Go.RowKit Go.Maps
set_option linter.unusedSimpArgs false
set_option linter.unusedVariables false

theorem u64_range {n : Int} (h : (Lit.int .u64 n).wf = true) : 0 ≤ n ∧ n < 18446744073709551616 := by
  have := (Lit.wf_int_iff _ _).1 h
  rw [IntKind.min_u64, IntKind.max_u64] at this
  omega

def wrds (z : List Int) (n : Nat) : List Nat := (List.range n).map fun j => (z.getD j 0).toNat
theorem wrds_length (z : List Int) (n : Nat) : (wrds z n).length = n := by simp [wrds]
theorem wrds_succ (z : List Int) (n : Nat) : wrds z (n + 1) = wrds z n ++ [(z.getD n 0).toNat] := by simp [wrds, List.range_succ]

/-- The word at a place of a slice that came in. -/
theorem IsRow.word {w w' : World} {a : Option Addr} {len cap : Nat} {zs : List Int} (h : IsRow .u64 w a len cap zs) (b : Below w.heap.size w w') {i : Nat} (hi : i < len) :
    ∃ g off, a = some ⟨g, off, Option.none⟩ ∧ g < w.heap.size ∧ w'.cell? ⟨g, off + i, Option.none⟩ = some (.int .u64 (((zs.getD i 0).toNat : Nat) : Int)) ∧ (zs.getD i 0).toNat < 18446744073709551616 := by
  obtain ⟨g, off, ha, hg, hc, hw⟩ := IsRow.at h b hi
  have hr := u64_range hw
  refine ⟨g, off, ha, hg, ?_, by omega⟩
  rw [hc, show (((zs.getD i 0).toNat : Nat) : Int) = zs.getD i 0 by omega]

/-- Pushing one word that the law has put into a slice of its own. -/
theorem spush1 {w : World} {q p : Nat} {S : Sk} {A : Ar} {R : Rp} {m : List Nat} (h : SOn w q p S A R m) (v : Nat) (hv : v < 18446744073709551616) (hl : m.length < S.cells) :
    Calls Try.prog 32 #[.pointer (some ⟨q, 0, Option.none⟩), .slice (some ⟨w.heap.size, 0, Option.none⟩) 1 1] (w.alloc (.cells #[.int .u64 v] 47)) (SChg q p S A R (m ++ [v]) (.int .i64 0) (w.alloc (.cells #[.int .u64 v] 47))) := by
  refine spush (h.fresh (Touch.alloc _ _ _)) [v] (by simp; omega) (some ⟨w.heap.size, 0, Option.none⟩) 1 (src_one w v hv _ ?_)
  rintro (e | e)
  · have := h.sk.ltq; omega
  · have := h.ar.ltb; omega

/-- A change stays above what was there. -/
theorem SChg.below {q p : Nat} {R : Rp} {B : Nat} {w w' : World} (t : Touch (fun k => k = q ∨ k = R.buf) w w') (hB : B ≤ w.heap.size) (hq : B ≤ q) (F : From B p R) : Below B w w' :=
  t.toBelow hB (fun k hk => by
    rcases hk with rfl | rfl
    · exact hq
    · exact F _ (.inr (.inl rfl)))

set_option maxRecDepth 100000 in
set_option maxHeartbeats 2000000 in
theorem order_walk (a0 : Option Addr) (len0 cap0 : Nat) (z0 : List Int) (w : World) (w0 : IsRow .u64 w a0 len0 cap0 z0) :
    Calls Try.prog 7 #[.slice a0 len0 cap0] w fun e w' => e = .returned (.bool true) ∧ Below w.heap.size w w' := by
  have W0 := Lib.hid w0
  clear w0
  by_cases hlen : 200 < len0
  · go_enter Try.func7, Try.ntmps7
    go_wp2_with fail
    refine (sawake_any w).mono ?_
    rintro e w2 ⟨rfl, b2⟩
    go_wp2_with fail
    go_ret
    exact ⟨rfl, b2⟩
  · go_enter Try.func7, Try.ntmps7
    go_wp2_with fail
    refine (sawake_any w).mono ?_
    rintro e w2 ⟨rfl, b2⟩
    go_wp2_with fail
    refine (new_ok 4096 w2 (by omega)).mono ?_
    rintro e w3 ⟨p, R3, rfl, s3, f3, t3⟩
    have b3 : Below w.heap.size w w3 := b2.trans (t3.toBelow b2.size (fun _ h => h.elim))
    have F3 : From w.heap.size p R3 := fun k hk => Nat.le_trans b2.size (f3 k hk)
    have MK := Lib.hid (snew s3 250 (by omega) (by omega) 2048 cls2000 rfl (by decide) (good_zeros _) (by decide) (by decide))
    clear t3 b2 f3 s3
    go_wp2_with fail
    refine MK.out.mono ?_
    rintro e w4 ⟨q, R, rfl, on4, st4, hq⟩
    have F := F3.step st4 b3.size
    have b4 := b3.trans (st4.below F3 b3.size)
    have hq4 : w.heap.size ≤ q := Nat.le_trans b3.size hq
    clear st4 MK F3 b3 hq
    have hS : ∃ S A, S.cells = 250 ∧ SOn w4 q p S A R [] := ⟨_, _, rfl, on4⟩
    clear on4
    obtain ⟨S4, A4, hc4, on4⟩ := hS
    go_wp2_with fail
    go_loopw [7] (fun j wr => ∃ (i : Nat) (S : Sk) (A : Ar), j = .int .i64 i ∧ i ≤ len0 ∧ S.cells = 250 ∧ SOn wr q p S A R (wrds z0 i) ∧ Below w.heap.size w wr) (fun j _ => len0 - (intOf j).toNat)
    case atStart => exact ⟨0, S4, A4, rfl, Nat.zero_le _, hc4, on4, b4⟩
    case round =>
      clear hc4 on4 b4
      obtain ⟨i, S, A, rfl, hi, hc, on, b⟩ := hrel
      by_cases hlt : i < len0
      · obtain ⟨g, off, rfl, hg, hcell, hv⟩ := IsRow.word W0.out b hlt
        have hsucc := wrds_succ z0 i
        have hL := wrds_length z0 i
        generalize (z0.getD i 0).toNat = v at *
        have PU := spush1 on v hv (by rw [hL, hc]; omega)
        rw [← hsucc] at PU
        have PU2 := Lib.hid PU
        have b5 := b.trans ((Touch.alloc (fun _ => False) wr (.cells #[.int .u64 v] 47)).toBelow b.size (fun _ h => h.elim))
        have HC := Lib.hid hc
        clear hsucc hL PU on b hc
        go_wp2_with fail
        refine PU2.out.mono ?_
        rintro e w6 ⟨S6, b', rfl, o1, o2, on6, _, _, t6⟩
        have b6 := b5.trans (SChg.below t6 b5.size hq4 F)
        have hc6 : S6.cells = 250 := by rw [o2]; exact HC.out
        clear t6 b5 o1 o2 PU2
        go_wp2_with fail
        go_roundw
        case rel => exact ⟨i + 1, S6, _, by go_num, by omega, hc6, on6, b6⟩
        case measure => simp [intOf]; omega
      · obtain rfl : i = len0 := by omega
        clear hlt hi
        go_wp2_with fail
        go_loopw [8] (fun j wr => ∃ (k : Nat) (S : Sk) (A : Ar), j = .int .i64 ((k : Int) - 1) ∧ k ≤ i ∧ SOn wr q p S A R (wrds z0 k) ∧ Below w.heap.size w wr) (fun j _ => (intOf j + 1).toNat)
        case atStart => exact ⟨i, S, A, rfl, Nat.le_refl _, on, b⟩
        case round =>
          clear on b hc
          obtain ⟨k, S, A, rfl, hk, on, b⟩ := hrel
          by_cases h0 : 0 < k
          · obtain ⟨k, rfl⟩ : ∃ j, k = j + 1 := ⟨k - 1, by omega⟩
            have c3 : ((k + 1 : Nat) : Int) - 1 = (k : Int) := by omega
            rw [c3]
            have hsucc := wrds_succ z0 k
            obtain ⟨g, off, ha, hg, hcell0, hv⟩ := IsRow.word W0.out b (show k < i by omega)
            subst ha
            have PO := Lib.hid (spop on ((z0.getD k 0).toNat) (wrds z0 k) hsucc)
            have HCELL := Lib.hid (fun (w6 : World) (b6 : Below w.heap.size w w6) => IsRow.word W0.out b6 (show k < i by omega))
            clear hsucc on hcell0 hv c3
            go_wp2_with fail
            refine PO.out.mono ?_
            rintro e w6 ⟨S6, b', rfl, o1, o2, on6, _, _, t6⟩
            have b6 := b.trans (SChg.below t6 b.size hq4 F)
            obtain ⟨g', off', ha', hg', hcell, hv⟩ := HCELL.out w6 b6
            cases ha'
            generalize (z0.getD k 0).toNat = v at *
            clear t6 b o1 o2 PO HCELL
            go_wp2_with fail
            go_roundw
            case rel => exact ⟨k, S6, _, rfl, by omega, on6, b6⟩
            case measure => simp [intOf]
          · obtain rfl : k = 0 := by omega
            have PE := Lib.hid (spop_empty on)
            clear on
            go_wp2_with fail
            refine PE.out.mono ?_
            rintro e w6 ⟨rfl, rfl⟩
            go_wp2_with fail
            go_ret
            exact ⟨rfl, b⟩
end Go.Proofs.Ytmjnoboeffajbaa
