/- Whatever calls begin, go on and end above them, frames below stay: the walk. -/
import Derived.Test.YtmjnoboeffajbaaFg
namespace Go.Proofs.Ytmjnoboeffajbaa
open Go.RowKit Go.Maps
set_option linter.unusedSimpArgs false
set_option linter.unusedVariables false

def lowF (z : List Int) (i : Nat) : Fm := ⟨(z.getD i 0).toNat, i, 3 * i⟩
def lows (z : List Int) (n : Nat) : List Fm := (List.range n).map (lowF z)
theorem lows_length (z : List Int) (n : Nat) : (lows z n).length = n := by simp [lows]
theorem lows_succ (z : List Int) (n : Nat) : lows z (n + 1) = lows z n ++ [lowF z n] := by simp [lows, List.range_succ]
theorem lows_get (z : List Int) (n i : Nat) (h : i < n) : (lows z n)[i]? = some (lowF z i) := by
  rw [lows, List.getElem?_map, List.getElem?_range h]; rfl
def hiF (z : List Int) (i : Nat) : Fm := ⟨1, (z.getD i 0).toNat + 1, i⟩
def his (z : List Int) (n : Nat) : List Fm := (List.range n).map (hiF z)
theorem his_length (z : List Int) (n : Nat) : (his z n).length = n := by simp [his]
theorem his_succ (z : List Int) (n : Nat) : his z (n + 1) = his z n ++ [hiF z n] := by simp [his, List.range_succ]

set_option maxRecDepth 100000 in
set_option maxHeartbeats 4000000 in
theorem fkeeps_walk (a0 : Option Addr) (len0 cap0 : Nat) (z0 : List Int) (a1 : Option Addr) (len1 cap1 : Nat) (z1 : List Int) (w : World) (w0 : IsRow .u16 w a0 len0 cap0 z0) (w1 : IsRow .u16 w a1 len1 cap1 z1) :
    Calls Try.prog 10 #[.slice a0 len0 cap0, .slice a1 len1 cap1] w fun e w' => e = .returned (.bool true) ∧ Below w.heap.size w w' := by
  have W0 := Lib.hid w0
  have W1 := Lib.hid w1
  clear w0 w1
  by_cases hlen : 60 < len0
  · go_enter Try.func10, Try.ntmps10
    go_wp2_with fail
    refine (fawake_any w).mono ?_
    rintro e w2 ⟨rfl, b2⟩
    go_wp2_with fail
    go_ret
    exact ⟨rfl, b2⟩
  by_cases hlen1 : 60 < len1
  · go_enter Try.func10, Try.ntmps10
    go_wp2_with fail
    refine (fawake_any w).mono ?_
    rintro e w2 ⟨rfl, b2⟩
    go_wp2_with fail
    go_ret
    exact ⟨rfl, b2⟩
  have d60 : ∀ i : Decidable ((60 : Int) < (len0 : Int)), @decide ((60 : Int) < (len0 : Int)) i = false := fun i => by rw [decide_eq_false_iff_not]; omega
  have d61 : ∀ i : Decidable ((60 : Int) < (len1 : Int)), @decide ((60 : Int) < (len1 : Int)) i = false := fun i => by rw [decide_eq_false_iff_not]; omega
  go_enter Try.func10, Try.ntmps10
  go_wp2_with fail
  refine (fawake_any w).mono ?_
  rintro e w2 ⟨rfl, b2⟩
  go_wp2_with fail
  refine (new_ok 2048 w2 (by omega)).mono ?_
  rintro e w3 ⟨p, R3, rfl, s3, f3, t3⟩
  have b3 : Below w.heap.size w w3 := b2.trans (t3.toBelow b2.size (fun _ h => h.elim))
  have F3 : From w.heap.size p R3 := fun k hk => Nat.le_trans b2.size (f3 k hk)
  have MK := Lib.hid (fnew s3 120 (by omega) (by omega) 2048 cls1440 rfl (by decide) (good_zeros _) (by decide) (by decide))
  clear t3 b2 f3 s3
  go_wp2_with fail
  refine MK.out.mono ?_
  rintro e w4 ⟨q, R, rfl, on4, st4, hq⟩
  have F := F3.step st4 b3.size
  have b4 := b3.trans (st4.below F3 b3.size)
  have hq4 : w.heap.size ≤ q := Nat.le_trans b3.size hq
  clear st4 MK F3 b3 hq
  have hS : ∃ S A, S.cells = 120 ∧ FOn w4 q p S A R [] := ⟨_, _, rfl, on4⟩
  clear on4
  obtain ⟨S4, A4, hc4, on4⟩ := hS
  go_wp2_with fail
  go_loopw [9] (fun j wr => ∃ (i : Nat) (S : Sk) (A : Ar), j = .int .i64 i ∧ i ≤ len0 ∧ S.cells = 120 ∧ FOn wr q p S A R (lows z0 i) ∧ Below w.heap.size w wr) (fun j _ => len0 - (intOf j).toNat)
  case atStart => exact ⟨0, S4, A4, rfl, Nat.zero_le _, hc4, on4, b4⟩
  case round =>
    clear hc4 on4 b4
    obtain ⟨i, S, A, rfl, hi, hc, on, b⟩ := hrel
    by_cases hlt : i < len0
    · obtain ⟨g, off, rfl, hg, hcell, hv⟩ := IsRow.half W0.out b hlt
      have hsucc := lows_succ z0 i
      have hL := lows_length z0 i
      unfold lowF at hsucc
      generalize (z0.getD i 0).toNat = v at *
      have e1 : IntKind.i64.wrap (3 * (i : Int)) = 3 * (i : Int) := IntWalk.i64_in _ (by omega)
      have e2 : IntKind.i64.wrap (v : Int) = (v : Int) := IntWalk.i64_in _ (by omega)
      have PU := fpush on ⟨v, i, 3 * i⟩ (by simp only [Fm.ok]; omega) (by rw [hL, hc]; omega)
      rw [← hsucc] at PU
      unfold Fm.cells at PU
      rw [show ((3 * i : Nat) : Int) = 3 * (i : Int) by omega] at PU
      have PU2 := Lib.hid PU
      have HC := Lib.hid hc
      clear hsucc hL PU on hc
      go_wp2_with fail
      refine PU2.out.mono ?_
      rintro e w6 ⟨S6, b', rfl, o1, o2, on6, t6⟩
      have b6 := b.trans (FChg.below t6 b.size hq4 F)
      have hc6 : S6.cells = 120 := by rw [o2]; exact HC.out
      clear t6 b o1 o2 PU2
      go_wp2_with fail
      go_roundw
      case rel => exact ⟨i + 1, S6, _, by go_num, by omega, hc6, on6, b6⟩
      case measure => simp [intOf]; omega
    · obtain rfl : i = len0 := by omega
      clear hlt hi
      go_wp2_with fail
      go_loopw [10] (fun j wr => ∃ (k : Nat) (S : Sk) (A : Ar), j = .int .i64 k ∧ k ≤ len1 ∧ S.cells = 120 ∧ FOn wr q p S A R (lows z0 i ++ his z1 k) ∧ Below w.heap.size w wr) (fun j _ => len1 - (intOf j).toNat)
      case atStart => exact ⟨0, S, A, rfl, Nat.zero_le _, hc, by simpa [his] using on, b⟩
      case round =>
        clear hc on b
        obtain ⟨k, S, A, rfl, hk, hc, on, b⟩ := hrel
        by_cases hlt : k < len1
        · obtain ⟨g, off, rfl, hg, hcell, hv⟩ := IsRow.half W1.out b hlt
          have hsucc := his_succ z1 k
          have hL := his_length z1 k
          have hL0 := lows_length z0 i
          unfold hiF at hsucc
          have HCELL := Lib.hid (fun (w6 : World) (b6 : Below w.heap.size w w6) => IsRow.half W1.out b6 hlt)
          generalize (z1.getD k 0).toNat = v at *
          have e2 : IntKind.i64.wrap (v : Int) = (v : Int) := IntWalk.i64_in _ (by omega)
          have e3 : IntKind.i64.wrap ((v : Int) + 1) = (v : Int) + 1 := IntWalk.i64_in _ (by omega)
          have PU := fpush on ⟨1, v, k⟩ (by simp only [Fm.ok]; omega) (by rw [List.length_append, hL, hL0, hc]; omega)
          unfold Fm.cells at PU
          have PU2 := Lib.hid PU
          have HC := Lib.hid hc
          have HSU := Lib.hid hsucc
          clear hsucc hL hL0 PU on hc
          go_wp2_with fail
          refine PU2.out.mono ?_
          rintro e w6 ⟨S6, b', rfl, o1, o2, on6, t6⟩
          have b6 := b.trans (FChg.below t6 b.size hq4 F)
          have hc6 : S6.cells = 120 := by rw [o2]; exact HC.out
          have PG := fgo on6 (v + 1) (by omega)
          rw [List.append_assoc, ← HSU.out, show ((v + 1 : Nat) : Int) = (v : Int) + 1 by omega] at PG
          have PG2 := Lib.hid PG
          obtain ⟨g', off', ha', hg', hcell, hv'⟩ := HCELL.out w6 b6
          cases ha'
          have HC6 := Lib.hid hc6
          clear t6 b o1 o2 PU2 on6 PG HCELL HSU hc6 HC
          go_wp2_with fail
          refine PG2.out.mono ?_
          rintro e w7 ⟨S7, b7', rfl, o1, o2, on7, t7⟩
          have b7 := b6.trans (FChg.below t7 b6.size hq4 F)
          have hc7 : S7.cells = 120 := by rw [o2]; exact HC6.out
          clear t7 b6 o1 o2 PG2
          go_wp2_with fail
          go_roundw
          case rel => exact ⟨k + 1, S7, _, by go_num, by omega, hc7, on7, b7⟩
          case measure => simp [intOf]; omega
        · obtain rfl : k = len1 := by omega
          clear hlt hk
          go_wp2_with fail
          go_loopw [11] (fun j wr => ∃ (n : Nat) (S : Sk) (A : Ar), j = .int .i64 ((n : Int) - 1) ∧ n ≤ k ∧ FOn wr q p S A R (lows z0 i ++ his z1 n) ∧ Below w.heap.size w wr) (fun j _ => (intOf j + 1).toNat)
          case atStart => exact ⟨k, S, A, rfl, Nat.le_refl _, on, b⟩
          case round =>
            clear on b hc
            obtain ⟨n, S, A, rfl, hn, on, b⟩ := hrel
            by_cases h0 : 0 < n
            · obtain ⟨n, rfl⟩ : ∃ j, n = j + 1 := ⟨n - 1, by omega⟩
              have c3 : ((n + 1 : Nat) : Int) - 1 = (n : Int) := by omega
              rw [c3]
              have hsucc := his_succ z1 n
              obtain ⟨g, off, ha, hg, hcell0, hv⟩ := IsRow.half W1.out b (show n < k by omega)
              subst ha
              rw [hsucc, ← List.append_assoc] at on
              have PO := fpop on
              unfold hiF Fm.cells at PO
              rw [show (((z1.getD n 0).toNat + 1 : Nat) : Int) = ((z1.getD n 0).toNat : Int) + 1 by omega] at PO
              have PO2 := Lib.hid PO
              have HCELL := Lib.hid (fun (w6 : World) (b6 : Below w.heap.size w w6) => IsRow.half W1.out b6 (show n < k by omega))
              clear hsucc on hcell0 hv c3 PO
              go_wp2_with fail
              refine PO2.out.mono ?_
              rintro e w6 ⟨S6, b', rfl, o1, o2, on6, t6⟩
              have b6 := b.trans (FChg.below t6 b.size hq4 F)
              obtain ⟨g', off', ha', hg', hcell, hv⟩ := HCELL.out w6 b6
              cases ha'
              generalize (z1.getD n 0).toNat = v at *
              have e2 : IntKind.i64.wrap (v : Int) = (v : Int) := IntWalk.i64_in _ (by omega)
              have e3 : IntKind.i64.wrap ((v : Int) + 1) = (v : Int) + 1 := IntWalk.i64_in _ (by omega)
              have tB : Touch (fun _ => False) w6 (w6.alloc (.cells #[.int .i64 1, .int .i64 ((v : Int) + 1), .int .i64 n] 69)) := Touch.alloc _ _ _
              have on7 := on6.fresh tB
              have b7 := b6.trans (tB.toBelow b6.size (fun _ h => h.elim))
              have gl : g < w6.heap.size := Nat.lt_of_lt_of_le hg b6.size
              clear t6 b o1 o2 PO2 HCELL on6 tB b6
              go_wp2_with fail
              go_quiet (fail)
              have on8 := on7.fresh (Touch.drewN _ _ nq)
              have b8 := b7.trans ((Touch.drewN (fun _ => False) _ nq).toBelow b7.size (fun _ h => h.elim))
              go_wp2_with fail
              go_roundw
              case rel => exact ⟨n, S6, _, rfl, by omega, on8, b8⟩
              case measure => simp [intOf]
            · obtain rfl : n = 0 := by omega
              have on' : FOn wr q p S A R (lows z0 i) := by simpa [his] using on
              clear on
              rw [show (((0 : Nat) : Int) - 1) = -1 from rfl]
              go_wp2_with fail
              go_loopw [14] (fun j wr => ∃ (n : Nat), j = .int .i64 n ∧ n ≤ i ∧ FOn wr q p S A R (lows z0 i) ∧ Below w.heap.size w wr) (fun j _ => i - (intOf j).toNat)
              case atStart => exact ⟨0, rfl, Nat.zero_le _, on', b⟩
              case round =>
                clear on' b
                obtain ⟨n, rfl, hn, on, b⟩ := hrel
                by_cases hlt : n < i
                · obtain ⟨g, off, ha, hg, hcell0, hv⟩ := IsRow.half W0.out b hlt
                  subst ha
                  have PO := fat_ok on n _ (lows_get z0 i n hlt)
                  unfold lowF Fm.cells at PO
                  rw [show ((3 * n : Nat) : Int) = 3 * (n : Int) by omega] at PO
                  have PO2 := Lib.hid PO
                  have ON := Lib.hid on
                  have HCELL := Lib.hid (fun (w6 : World) (b6 : Below w.heap.size w w6) => IsRow.half W0.out b6 hlt)
                  clear on hcell0 hv PO
                  go_wp2_with fail
                  refine PO2.out.mono ?_
                  rintro e w6 ⟨rfl, t6⟩
                  have b6 := b.trans (t6.toBelow b.size (fun _ h => h.elim))
                  have on6 := ON.out.fresh t6
                  obtain ⟨g', off', ha', hg', hcell, hv⟩ := HCELL.out w6 b6
                  cases ha'
                  generalize (z0.getD n 0).toNat = v at *
                  have e1 : IntKind.i64.wrap (3 * (n : Int)) = 3 * (n : Int) := IntWalk.i64_in _ (by omega)
                  have e2 : IntKind.i64.wrap (v : Int) = (v : Int) := IntWalk.i64_in _ (by omega)
                  have tB : Touch (fun _ => False) w6 (w6.alloc (.cells #[.int .i64 v, .int .i64 n, .int .i64 (3 * (n : Int))] 69)) := Touch.alloc _ _ _
                  have on7 := on6.fresh tB
                  have b7 := b6.trans (tB.toBelow b6.size (fun _ h => h.elim))
                  have gl : g < w6.heap.size := Nat.lt_of_lt_of_le hg b6.size
                  clear t6 b PO2 HCELL on6 tB b6 ON
                  go_wp2_with fail
                  go_quiet (fail)
                  have on8 := on7.fresh (Touch.drewN _ _ nq)
                  have b8 := b7.trans ((Touch.drewN (fun _ => False) _ nq).toBelow b7.size (fun _ h => h.elim))
                  go_wp2_with fail
                  go_roundw
                  case rel =>
                    exact ⟨n + 1, by go_num, by omega, on8, b8⟩
                  case measure => simp [intOf]; omega
                · obtain rfl : n = i := by omega
                  have PE := Lib.hid (fdepth_ok on.fr on.cl)
                  have hh := on.has.len
                  rw [lows_length] at hh
                  rw [← hh] at PE
                  clear on hh
                  go_wp2_with fail
                  refine PE.out.mono ?_
                  rintro e w6 ⟨rfl, rfl⟩
                  go_wp2_with fail
                  go_ret
                  exact ⟨rfl, b⟩
end Go.Proofs.Ytmjnoboeffajbaa
