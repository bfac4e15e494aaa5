/- Two stacks of one arena don't meet: the walk. -/
import Derived.Test.YtmjnoboeffajbaaSi
namespace Go.Proofs.Ytmjnoboeffajbaa
open Go.RowKit Go.Maps
set_option linter.unusedSimpArgs false
set_option linter.unusedVariables false

theorem Two.fresh {w w' : World} {q q2 p : Nat} {S S2 : Sk} {A : Ar} {R : Rp} {m m2 : List Nat} (h : Two w q q2 p S S2 A R m m2) (t : Touch (fun _ => False) w w') : Two w' q q2 p S S2 A R m m2 := ⟨h.one.fresh t, h.two.fresh t, h.ne, h.apart⟩

theorem wrds_getD (z : List Int) {n k : Nat} (h : k < n) : (wrds z n).getD k 0 = (z.getD k 0).toNat := by
  rw [List.getD_eq_getElem?_getD, wrds, List.getElem?_map, List.getElem?_range h]; rfl

def TwoMade (w0 : World) (p : Nat) (w : World) (q : Nat) (e : Ending) (w' : World) : Prop :=
  ∃ q2 R' S2 A', e = .returned (.tuple #[.pointer (some ⟨q2, 0, Option.none⟩), .int .i64 0]) ∧ (∃ S : Sk, S.cells = 64 ∧ S2.cells = 64 ∧ Two w' q q2 p S S2 A' R' [] []) ∧ From w0.heap.size p R' ∧ Below w0.heap.size w0 w' ∧ w0.heap.size ≤ q2

/-- An arena of 2048 bytes and two stacks of 64 words: the second one's making. -/
theorem two_new (w0 : World) {w : World} {q p : Nat} {R : Rp} (on : SOn w q p ⟨0, 64, 0, false⟩ ({ Ar.fresh 2048 with height := 0 + 512 }.took 0 512) R []) (F : From w0.heap.size p R) (b : Below w0.heap.size w0 w) :
    Calls Try.prog 31 #[.pointer (some ⟨p, 0, Option.none⟩), .int .i64 64] w (TwoMade w0 p w q) := by
  refine (snew on.ar 64 (by omega) (by omega) 512 cls512 rfl (by decide) on.good (by decide) (by decide)).mono ?_
  rintro e w' ⟨q2, R', rfl, on2, st, hq⟩
  refine ⟨q2, R', _, _, rfl, ⟨_, rfl, rfl, Two.made on (by rfl) on2 st hq (by decide)⟩, F.step st b.size, b.trans (st.below F b.size), Nat.le_trans b.size hq⟩

set_option maxRecDepth 100000 in
set_option maxHeartbeats 4000000 in
theorem two_walk (a0 : Option Addr) (len0 cap0 : Nat) (z0 : List Int) (a1 : Option Addr) (len1 cap1 : Nat) (z1 : List Int) (w : World) (w0 : IsRow .u64 w a0 len0 cap0 z0) (w1 : IsRow .u64 w a1 len1 cap1 z1) :
    Calls Try.prog 8 #[.slice a0 len0 cap0, .slice a1 len1 cap1] w fun e w' => e = .returned (.bool true) ∧ Below w.heap.size w w' := by
  have W0 := Lib.hid w0
  have W1 := Lib.hid w1
  clear w0 w1
  by_cases hlen : 60 < len0
  · go_enter Try.func8, Try.ntmps8
    go_wp2_with fail
    refine (sawake_any w).mono ?_
    rintro e w2 ⟨rfl, b2⟩
    go_wp2_with fail
    go_ret
    exact ⟨rfl, b2⟩
  · by_cases hlen1 : 60 < len1
    · go_enter Try.func8, Try.ntmps8
      go_wp2_with fail
      refine (sawake_any w).mono ?_
      rintro e w2 ⟨rfl, b2⟩
      go_wp2_with fail
      go_ret
      exact ⟨rfl, b2⟩
    · go_enter Try.func8, Try.ntmps8
      go_wp2_with fail
      refine (sawake_any w).mono ?_
      rintro e w2 ⟨rfl, b2⟩
      go_wp2_with fail
      refine (new_ok 2048 w2 (by omega)).mono ?_
      rintro e w3 ⟨p, R3, rfl, s3, f3, t3⟩
      have b3 : Below w.heap.size w w3 := b2.trans (t3.toBelow b2.size (fun _ h => h.elim))
      have F3 : From w.heap.size p R3 := fun k hk => Nat.le_trans b2.size (f3 k hk)
      have MK := Lib.hid (snew s3 64 (by omega) (by omega) 512 cls512 rfl (by decide) (good_zeros _) (by decide) (by decide))
      clear t3 b2 f3 s3
      go_wp2_with fail
      refine MK.out.mono ?_
      rintro e w4 ⟨q, R4, rfl, on4, st4, hq⟩
      have F4 := F3.step st4 b3.size
      have b4 := b3.trans (st4.below F3 b3.size)
      have hq4 : w.heap.size ≤ q := Nat.le_trans b3.size hq
      have MK2 := Lib.hid (two_new w on4 F4 b4)
      clear st4 MK F3 b3 hq on4 F4 b4
      go_wp2_with fail
      refine MK2.out.mono ?_
      rintro e w5 ⟨q2, R, S5', A5, rfl, ⟨S5, hc5, hc5', tw5⟩, F, b5, hq2⟩
      clear MK2
      go_wp2_with fail
      go_loopw [11] (fun j wr => ∃ (i : Nat) (S S2 : Sk) (A : Ar), j = .int .i64 i ∧ i ≤ max len0 len1 ∧ Hid (S.cells = 64 ∧ S2.cells = 64) ∧ Two wr q q2 p S S2 A R (wrds z0 (min i len0)) (wrds z1 (min i len1)) ∧ Below w.heap.size w wr) (fun j _ => max len0 len1 - (intOf j).toNat)
      case atStart => exact ⟨0, S5, S5', A5, rfl, Nat.zero_le _, Lib.hid ⟨hc5, hc5'⟩, by simpa [wrds] using tw5, b5⟩
      case round =>
        clear hc5 hc5' tw5 b5
        obtain ⟨i, S, S2, A, rfl, hi, HC, tw, b⟩ := hrel
        by_cases h0 : i < len0
        · rw [Nat.min_eq_left (by omega : i ≤ len0)] at tw
          obtain ⟨g, off, rfl, hg, hcell, hv⟩ := IsRow.word W0.out b h0
          have hsucc := wrds_succ z0 i
          have hL := wrds_length z0 i
          generalize (z0.getD i 0).toNat = v at *
          have PU := tw.push1 v hv (by rw [hL, HC.out.1]; omega) b.size hq4 F
          rw [← hsucc] at PU
          have PU2 := Lib.hid PU
          clear hsucc hL PU tw
          by_cases h1 : i < len1
          · go_wp2_with fail
            refine PU2.out.mono ?_
            rintro e w6 ⟨S6, S6', A6, rfl, o1, o2, tw6, b6'⟩
            have b6 := b.trans b6'
            have HC6 : Hid (S6.cells = 64 ∧ S6'.cells = 64) := Lib.hid ⟨by rw [o1]; exact HC.out.1, by rw [o2]; exact HC.out.2⟩
            clear b b6' o1 o2 PU2 HC hcell
            rw [Nat.min_eq_left (by omega : i ≤ len1)] at tw6
            obtain ⟨g', off', rfl, hg', hcell', hv'⟩ := IsRow.word W1.out b6 h1
            have hsucc' := wrds_succ z1 i
            have hL' := wrds_length z1 i
            generalize (z1.getD i 0).toNat = v' at *
            have PU' := tw6.push2 v' hv' (by rw [hL', HC6.out.2]; omega) b6.size hq2 F
            rw [← hsucc'] at PU'
            have PU2' := Lib.hid PU'
            clear hsucc' hL' PU' tw6
            go_wp2_with fail
            refine PU2'.out.mono ?_
            rintro e w7 ⟨S7, S7', A7, rfl, o1, o2, tw7, b7'⟩
            have b7 := b6.trans b7'
            have HC7 : Hid (S7.cells = 64 ∧ S7'.cells = 64) := Lib.hid ⟨by rw [o1]; exact HC6.out.1, by rw [o2]; exact HC6.out.2⟩
            clear b6 b7' o1 o2 PU2' HC6 hcell'
            go_wp2_with fail
            go_roundw
            case rel => exact ⟨i + 1, S7, S7', A7, by go_num, by omega, HC7, by rw [Nat.min_eq_left (by omega : i + 1 ≤ len0), Nat.min_eq_left (by omega : i + 1 ≤ len1)]; exact tw7, b7⟩
            case measure => simp [intOf]; omega
          · go_wp2_with fail
            refine PU2.out.mono ?_
            rintro e w6 ⟨S6, S6', A6, rfl, o1, o2, tw6, b6'⟩
            have b6 := b.trans b6'
            have HC6 : Hid (S6.cells = 64 ∧ S6'.cells = 64) := Lib.hid ⟨by rw [o1]; exact HC.out.1, by rw [o2]; exact HC.out.2⟩
            clear b b6' o1 o2 PU2 HC hcell
            go_wp2_with fail
            go_roundw
            case rel => exact ⟨i + 1, S6, S6', A6, by go_num, by omega, HC6, by rw [Nat.min_eq_left (by omega : i + 1 ≤ len0), Nat.min_eq_right (by omega : len1 ≤ i + 1)]; rw [Nat.min_eq_right (by omega : len1 ≤ i)] at tw6; exact tw6, b6⟩
            case measure => simp [intOf]; omega
        · by_cases h1 : i < len1
          · rw [Nat.min_eq_left (by omega : i ≤ len1)] at tw
            obtain ⟨g', off', rfl, hg', hcell', hv'⟩ := IsRow.word W1.out b h1
            have hsucc' := wrds_succ z1 i
            have hL' := wrds_length z1 i
            generalize (z1.getD i 0).toNat = v' at *
            have PU' := tw.push2 v' hv' (by rw [hL', HC.out.2]; omega) b.size hq2 F
            rw [← hsucc'] at PU'
            have PU2' := Lib.hid PU'
            clear hsucc' hL' PU' tw
            go_wp2_with fail
            refine PU2'.out.mono ?_
            rintro e w7 ⟨S7, S7', A7, rfl, o1, o2, tw7, b7'⟩
            have b7 := b.trans b7'
            have HC7 : Hid (S7.cells = 64 ∧ S7'.cells = 64) := Lib.hid ⟨by rw [o1]; exact HC.out.1, by rw [o2]; exact HC.out.2⟩
            clear b b7' o1 o2 PU2' HC hcell'
            go_wp2_with fail
            go_roundw
            case rel => exact ⟨i + 1, S7, S7', A7, by go_num, by omega, HC7, by rw [Nat.min_eq_right (by omega : len0 ≤ i + 1), Nat.min_eq_left (by omega : i + 1 ≤ len1)]; rw [Nat.min_eq_right (by omega : len0 ≤ i)] at tw7; exact tw7, b7⟩
            case measure => simp [intOf]; omega
          · rw [Nat.min_eq_right (by omega : len0 ≤ i), Nat.min_eq_right (by omega : len1 ≤ i)] at tw
            have TK := tw.take1 (by rw [HC.out.1, HC.out.2]) len0 (by rw [wrds_length]; omega) b.size hq4
            rw [wrds_length, Nat.sub_self, List.take_zero, List.drop_zero] at TK
            have TK2 := Lib.hid TK
            have hqlt := tw.two.sk.ltq
            clear tw TK
            go_wp2_with fail
            refine TK2.out.mono ?_
            rintro e w6 ⟨x, cx, S6, rfl, src6, -, o6, tw6, b6'⟩
            have b6 := b.trans b6'
            have TK := tw6.take2 (by rw [o6]) len1 (by rw [wrds_length]; omega) b6.size hq2
            rw [wrds_length, Nat.sub_self, List.take_zero, List.drop_zero] at TK
            have TK3 := Lib.hid TK
            rw [wrds_length]
            clear TK TK2 tw6 b b6' o6 HC
            go_wp2_with fail
            refine TK3.out.mono ?_
            rintro e w7 ⟨y, cy, S7, rfl, src7, -, o7, tw7, b7', t7⟩
            have b7 := b6.trans b7'
            have SX := Lib.hid (src6.kept (t7.mono (fun k _ e => by rw [e]; exact hqlt)))
            have SY := Lib.hid src7
            rw [wrds_length]
            clear TK3 tw7 b6 b7' o7 src6 src7 t7 F
            go_wp2_with fail
            go_loopw [16] (fun j v => ∃ (k n : Nat), j = .int .i64 k ∧ k ≤ len0 ∧ v = w7.drewN n) (fun j _ => len0 - (intOf j).toNat)
            case atStart => exact ⟨0, 0, rfl, Nat.zero_le _, rfl⟩
            case round =>
              obtain ⟨k, n, rfl, hk, rfl⟩ := hrel
              by_cases hlt : k < len0
              · obtain ⟨g, off, rfl, hcx, _, _⟩ := SX.out k (by rw [wrds_length]; exact hlt)
                rw [wrds_getD _ hlt] at hcx
                obtain ⟨g', off', rfl, _, hcz, _⟩ := IsRow.word W0.out b7 hlt
                generalize (z0.getD k 0).toNat = v at *
                go_wp2_with fail
                go_quiet (fail)
                go_wp2_with fail
                go_roundw
                case rel => exact ⟨k + 1, n + nq, by go_num, by omega, by first | rfl | simp⟩
                case measure => simp [intOf]; omega
              · obtain rfl : k = len0 := by omega
                clear hlt hk SX
                go_wp2_with fail
                go_loopw [17] (fun j v => ∃ (k n : Nat), j = .int .i64 k ∧ k ≤ len1 ∧ v = w7.drewN n) (fun j _ => len1 - (intOf j).toNat)
                case atStart => exact ⟨0, n, rfl, Nat.zero_le _, rfl⟩
                case round =>
                  obtain ⟨k2, n, rfl, hk, rfl⟩ := hrel
                  by_cases hlt : k2 < len1
                  · obtain ⟨g, off, rfl, hcx, _, _⟩ := SY.out k2 (by rw [wrds_length]; exact hlt)
                    rw [wrds_getD _ hlt] at hcx
                    obtain ⟨g', off', rfl, _, hcz, _⟩ := IsRow.word W1.out b7 hlt
                    generalize (z1.getD k2 0).toNat = v at *
                    go_wp2_with fail
                    go_quiet (fail)
                    go_wp2_with fail
                    go_roundw
                    case rel => exact ⟨k2 + 1, n + nq, by go_num, by omega, by first | rfl | simp⟩
                    case measure => simp [intOf]; omega
                  · obtain rfl : k2 = len1 := by omega
                    clear hlt hk SY
                    go_wp2_with fail
                    go_ret
                    exact ⟨rfl, b7.trans ((Touch.drewN (fun _ => False) w7 n).toBelow b7.size (fun _ h => h.elim))⟩
end Go.Proofs.Ytmjnoboeffajbaa
