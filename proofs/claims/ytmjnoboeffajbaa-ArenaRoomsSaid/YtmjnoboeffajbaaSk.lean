/- Unwinding is taking, giving up, and pushing again: the walk. -/
import Derived.Test.YtmjnoboeffajbaaSj
namespace Go.Proofs.Ytmjnoboeffajbaa
open Go.RowKit Go.Maps
set_option linter.unusedSimpArgs false
set_option linter.unusedVariables false

variable {w w' : World} {q q2 p : Nat} {S S2 : Sk} {A : Ar} {R : Rp} {m m2 m' : List Nat} {v : Value} {e : Ending}

theorem Two.chg1 (h : Two w q q2 p S S2 A R m m2) {B : Nat} (hB : B ≤ w.heap.size) (hq : B ≤ q) (F : From B p R) (c : SChg q p S A R m' v w e w') : TwoChg q q2 p S S2 A R m' m2 v B w e w' := by
  obtain ⟨S', b', rfl, o1, o2, on, old, _, t⟩ := c
  exact ⟨S', S2, _, rfl, o2, rfl, ⟨on, h.one.other h.two h.ne (.inl h.apart) on old t, h.ne, by rw [o1, o2]; exact h.apart⟩, SChg.below t hB hq F⟩
theorem Two.chg2 (h : Two w q q2 p S S2 A R m m2) {B : Nat} (hB : B ≤ w.heap.size) (hq : B ≤ q2) (F : From B p R) (c : SChg q2 p S2 A R m' v w e w') : TwoChg q q2 p S S2 A R m m' v B w e w' := by
  obtain ⟨S', b', rfl, o1, o2, on, old, _, t⟩ := c
  exact ⟨S, S', _, rfl, rfl, o2, ⟨h.two.other h.one h.ne.symm (.inr h.apart) on old t, on, h.ne, by rw [o1]; exact h.apart⟩, SChg.below t hB hq F⟩

theorem sget (h : SOn w q p S A R m) (i : Nat) (hi : i < m.length) :
    Calls Try.prog 44 #[.pointer (some ⟨q, 0, Option.none⟩), .int .i64 i] w fun e w' => e = .returned (.tuple #[.int .u64 ((m.getD i 0 : Nat) : Int), .int .i64 0]) ∧ ∃ n, w' = w.drewN n :=
  sget_ok h.sk h.ar h.cl h.good h.room i (by rw [← h.has.len]; exact hi) h.has
theorem sheight (h : SOn w q p S A R m) : Calls Try.prog 43 #[.pointer (some ⟨q, 0, Option.none⟩)] w fun e w' => e = .returned (.int .i64 m.length) ∧ w = w' := by
  have := sheight_ok h.sk h.cl
  rw [← h.has.len] at this
  exact this

theorem u8_range {n : Int} (h : (Lit.int .u8 n).wf = true) : 0 ≤ n ∧ n < 256 := by
  have := (Lit.wf_int_iff _ _).1 h
  rw [show IntKind.u8.min = 0 from rfl, show IntKind.u8.max = 255 from rfl] at this
  omega

set_option maxRecDepth 100000 in
set_option maxHeartbeats 4000000 in
theorem moves_walk (a0 : Option Addr) (len0 cap0 : Nat) (z0 : List Int) (c1 c2 : Nat) (hc1 : c1 < 256) (hc2 : c2 < 256) (w : World) (w0 : IsRow .u64 w a0 len0 cap0 z0) :
    Calls Try.prog 11 #[.slice a0 len0 cap0, .int .u8 c1, .int .u8 c2] w fun e w' => e = .returned (.bool true) ∧ Below w.heap.size w w' := by
  have W0 := Lib.hid w0
  clear w0
  by_cases hlen : 60 < len0
  · go_enter Try.func11, Try.ntmps11
    go_wp2_with fail
    refine (sawake_any w).mono ?_
    rintro e w2 ⟨rfl, b2⟩
    go_wp2_with fail
    go_ret
    exact ⟨rfl, b2⟩
  · go_enter Try.func11, Try.ntmps11
    go_wp2_with fail
    refine (sawake_any w).mono ?_
    rintro e w2 ⟨rfl, b2⟩
    go_wp2_with fail
    refine (new_ok 2048 w2 (by omega)).mono ?_
    rintro e w3 ⟨p, R3, rfl, s3, f3, t3⟩
    have b3 : Below w.heap.size w w3 := b2.trans (t3.toBelow b2.size (fun _ h => h.elim))
    have F3 : From w.heap.size p R3 := fun k hk => Nat.le_trans b2.size (f3 k hk)
    have MK := Lib.hid (snew s3 64 (by omega) (by omega) 512 cls512 rfl (by decide) (good_zeros _) (by decide) (by decide))
    clear t3 b2 f3 s3
    go_wp2_with fail
    refine MK.out.mono ?_
    rintro e w4 ⟨q, R4, rfl, on4, st4, hq⟩
    have F4 := F3.step st4 b3.size
    have b4 := b3.trans (st4.below F3 b3.size)
    have hq4 : w.heap.size ≤ q := Nat.le_trans b3.size hq
    have MK2 := Lib.hid (two_new w on4 F4 b4)
    clear st4 MK F3 b3 hq on4 F4 b4
    go_wp2_with fail
    refine MK2.out.mono ?_
    rintro e w5 ⟨q2, R, S5', A5, rfl, ⟨S5, hc5, hc5', tw5⟩, F, b5, hq2⟩
    clear MK2
    go_wp2_with fail
    go_loopw [13] (fun j wr => ∃ (i : Nat) (S S2 : Sk) (A : Ar), j = .int .i64 i ∧ i ≤ len0 ∧ Hid (S.cells = 64 ∧ S2.cells = 64) ∧ Two wr q q2 p S S2 A R (wrds z0 i) (wrds z0 i) ∧ Below w.heap.size w wr) (fun j _ => len0 - (intOf j).toNat)
    case atStart => exact ⟨0, S5, S5', A5, rfl, Nat.zero_le _, Lib.hid ⟨hc5, hc5'⟩, by simpa [wrds] using tw5, b5⟩
    case round =>
      clear hc5 hc5' tw5 b5
      obtain ⟨i, S, S2, A, rfl, hi, HC, tw, b⟩ := hrel
      by_cases h0 : i < len0
      · obtain ⟨g, off, rfl, hg, hcell, hv⟩ := IsRow.word W0.out b h0
        have hsucc := wrds_succ z0 i
        have hL := wrds_length z0 i
        have HCELL := Lib.hid (fun (w6 : World) (b6 : Below w.heap.size w w6) => IsRow.word W0.out b6 h0)
        generalize (z0.getD i 0).toNat = v at *
        have PU := tw.push1 v hv (by rw [hL, HC.out.1]; omega) b.size hq4 F
        rw [← hsucc] at PU
        have PU2 := Lib.hid PU
        clear PU tw
        have HS := Lib.hid (And.intro hsucc hL)
        clear hsucc hL
        go_wp2_with fail
        refine PU2.out.mono ?_
        rintro e w6 ⟨S6, S6', A6, rfl, o1, o2, tw6, b6'⟩
        have b6 := b.trans b6'
        have HC6 : Hid (S6.cells = 64 ∧ S6'.cells = 64) := Lib.hid ⟨by rw [o1]; exact HC.out.1, by rw [o2]; exact HC.out.2⟩
        clear b b6' o1 o2 PU2 HC hcell
        obtain ⟨g', off', ha', hg', hcell', hv'⟩ := HCELL.out w6 b6
        cases ha'
        have PU' := tw6.push2 v hv' (by rw [HS.out.2, HC6.out.2]; omega) b6.size hq2 F
        rw [← HS.out.1] at PU'
        have PU2' := Lib.hid PU'
        clear PU' tw6 HCELL
        go_wp2_with fail
        refine PU2'.out.mono ?_
        rintro e w7 ⟨S7, S7', A7, rfl, o1, o2, tw7, b7'⟩
        have b7 := b6.trans b7'
        have HC7 : Hid (S7.cells = 64 ∧ S7'.cells = 64) := Lib.hid ⟨by rw [o1]; exact HC6.out.1, by rw [o2]; exact HC6.out.2⟩
        clear b6 b7' o1 o2 PU2' HC6 hcell'
        go_wp2_with fail
        go_roundw
        case rel => exact ⟨i + 1, S7, S7', A7, by go_num, by omega, HC7, tw7, b7⟩
        case measure => simp [intOf]; omega
      · obtain rfl : i = len0 := by omega
        have hL := wrds_length z0 i
        generalize wrds z0 i = l at *
        obtain ⟨k, hk⟩ : ∃ k, k = c1 % (i + 1) := ⟨_, rfl⟩
        obtain ⟨h, hh⟩ : ∃ h, h = c2 % (i - k + 1) := ⟨_, rfl⟩
        have hk2 : k ≤ i := by have := Nat.mod_lt c1 (show 0 < i + 1 by omega); omega
        have hh2 : h ≤ i - k := by have := Nat.mod_lt c2 (show 0 < i - k + 1 by omega); omega
        have e1 : (c1 : Int) % ((i : Int) + 1) = (k : Int) := by rw [hk]; simp
        have e2 : (c2 : Int) % ((i : Int) - (k : Int) + 1) = (h : Int) := by rw [hh, show (i : Int) - (k : Int) + 1 = ((i - k + 1 : Nat) : Int) by omega]; rfl
        have UW := Lib.hid (sunwind tw.one k h (by rw [hL]; omega) (by rw [hL]; omega))
        have TW := Lib.hid tw
        have HL := Lib.hid hL
        clear hk hh tw hL
        go_wp2_with fail
        refine UW.out.mono ?_
        intro e w6 ch
        obtain ⟨S6, S6', A6, rfl, o1, o2, tw6, b6'⟩ := TW.out.chg1 b.size hq4 F ch
        have b6 := b.trans b6'
        have hD : (l.drop (l.length - k)).length = k := by simp [HL.out]; omega
        have TK := tw6.take2 (by rw [o1, o2, HC.out.1, HC.out.2]) k (by rw [HL.out]; omega) b6.size hq2
        have hl1 : (l.take (l.length - k)).length = i - k := by simp [HL.out]
        have hl2 : (l.take (l.length - k)).take (i - k - (i - k - h)) = l.take h := by rw [List.take_take, HL.out]; congr 1; omega
        have hl3 : (l.take h ++ l.drop (l.length - k)).length = h + k := by rw [List.length_append, hD]; simp [HL.out]; omega
        have hcc : S6'.cells = 64 := by rw [o2]; exact HC.out.2
        have hc6 : S6.cells = 64 := by rw [o1]; exact HC.out.1
        generalize l.drop (l.length - k) = D at *
        generalize l.take (l.length - k) = L2 at *
        generalize l.take h = L3 at *
        have q2lt := tw6.two.sk.ltq
        have buflt := tw6.two.ar.ltb
        have TK2 := Lib.hid TK
        have HH := Lib.hid (And.intro hD (And.intro hl1 (And.intro hl2 (And.intro hl3 (And.intro hcc hc6)))))
        clear UW TW ch b b6' TK o1 o2 HC tw6 hD hl1 hl2 hl3 hcc hc6
        go_wp2_with fail
        refine TK2.out.mono ?_
        rintro e w7 ⟨x, cx, S7, rfl, src7, -, o7, tw7, b7', t7⟩
        have b7 := b6.trans b7'
        have HG := sheight tw7.two
        rw [HH.out.2.1, show ((i - k : Nat) : Int) = (i : Int) - (k : Int) by omega] at HG
        have TK := tw7.take2 (by rw [o7]) (i - k - h) (by rw [HH.out.2.1]; omega) b7.size hq2
        rw [HH.out.2.1, HH.out.2.2.1, show ((i - k - h : Nat) : Int) = (i : Int) - (k : Int) - (h : Int) by omega] at TK
        have TK3 := Lib.hid TK
        have HG2 := Lib.hid HG
        have c7 : Hid (S7.cells = 64) := Lib.hid (by rw [o7]; exact HH.out.2.2.2.2.2)
        have q2lt7 := tw7.two.sk.ltq
        rw [HH.out.1]
        have SX := Lib.hid src7
        clear TK2 TK HG b6 b7' o7 tw7 src7 t7
        go_wp2_with fail
        refine HG2.out.mono ?_
        rintro e w8 ⟨rfl, rfl⟩
        go_wp2_with fail
        refine TK3.out.mono ?_
        rintro e w8 ⟨y, cy, S8, rfl, -, -, o8, tw8, b8', t8⟩
        have b8 := b7.trans b8'
        have sx8 := (SX.out.kept (t8.mono (fun k _ e => by rw [e]; exact q2lt)))
        have hsrc : Src w8 x D (fun k => k = q2 ∨ k = R.buf) := by
          intro j hj
          obtain ⟨g, off, hx, hc, hv, hF⟩ := sx8 j hj
          refine ⟨g, off, hx, hc, hv, ?_⟩
          rintro (e | e)
          · exact hF (by rw [e]; exact q2lt)
          · exact hF (by rw [e]; exact buflt)
        have hL3 : L3.length + D.length = h + k := by have := HH.out.2.2.2.1; rw [List.length_append] at this; exact this
        have PU := spush tw8.two D (by rw [hL3, o8, HH.out.2.2.2.2.2]; omega) x cx hsrc
        rw [HH.out.1] at PU
        have PU2 := Lib.hid PU
        have TW8 := Lib.hid tw8
        clear TK3 HG2 SX b7 b8' t8 sx8 hsrc PU tw8 o8 hL3
        go_wp2_with fail
        refine PU2.out.mono ?_
        intro e w9 ch
        obtain ⟨S9, S9', A9, rfl, o1, o2, tw9, b9'⟩ := TW8.out.chg2 b8.size hq2 F ch
        have b9 := b8.trans b9'
        have H1 := sheight tw9.one
        have H2 := sheight tw9.two
        rw [HH.out.2.2.2.1, show ((h + k : Nat) : Int) = (k : Int) + (h : Int) by omega] at H1 H2
        have H1' := Lib.hid H1
        have H2' := Lib.hid H2
        have TW9 := Lib.hid tw9
        have HM := Lib.hid HH.out.2.2.2.1
        clear PU2 TW8 ch b8 b9' o1 o2 H1 H2 tw9 HH HL c7
        generalize L3 ++ D = M at *
        go_wp2_with fail
        refine H1'.out.mono ?_
        rintro e w8 ⟨rfl, rfl⟩
        go_wp2_with fail
        refine H2'.out.mono ?_
        rintro e w8 ⟨rfl, rfl⟩
        go_wp2_with fail
        go_loopw [22] (fun j v => ∃ (r n : Nat), j = .int .i64 r ∧ r ≤ h + k ∧ v = w9.drewN n) (fun j _ => h + k - (intOf j).toNat)
        case atStart => exact ⟨0, 0, rfl, Nat.zero_le _, rfl⟩
        case round =>
          obtain ⟨r, n, rfl, hr, rfl⟩ := hrel
          by_cases hlt : r < h + k
          · have G1 := Lib.hid (sget (TW9.out.one.fresh (Touch.drewN (fun _ => False) w9 n)) r (by rw [HM.out]; exact hlt))
            have G2 := Lib.hid (fun n => sget (TW9.out.two.fresh (Touch.drewN (fun _ => False) w9 n)) r (by rw [HM.out]; exact hlt))
            generalize M.getD r 0 = v at *
            have hi1 : (r : Int) < (k : Int) + (h : Int) := by omega
            go_wp2_with fail
            refine G1.out.mono ?_
            rintro e w8 ⟨rfl, n1, rfl⟩
            go_wp2_with fail
            refine (G2.out _).mono ?_
            rintro e w8 ⟨rfl, n2, rfl⟩
            go_wp2_with fail
            go_roundw
            case rel => exact ⟨r + 1, n + n1 + n2, by go_num, by omega, by first | rfl | simp⟩
            case measure => simp [intOf]; omega
          · have hi1 : ¬ (r : Int) < (k : Int) + (h : Int) := by omega
            clear H1' H2' TW9 HM
            go_wp2_with fail
            go_ret
            exact ⟨rfl, b9.trans ((Touch.drewN (fun _ => False) w9 n).toBelow b9.size (fun _ h => h.elim))⟩
end Go.Proofs.Ytmjnoboeffajbaa
