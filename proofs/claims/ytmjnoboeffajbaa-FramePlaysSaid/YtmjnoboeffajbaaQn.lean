/- FramePlays: the walk. -/
import Derived.Test.YtmjnoboeffajbaaQm
namespace Go.Proofs.Ytmjnoboeffajbaa
open Go.RowKit Go.Maps
set_option linter.unusedSimpArgs false
set_option linter.unusedVariables false

set_option maxRecDepth 100000 in
set_option maxHeartbeats 4000000 in
theorem fplays_walk (sz : Nat) (cells : Int) (a0 : Option Addr) (len0 cap0 : Nat) (w : World) (hsz : sz < 65536) (acts : FActs w a0 len0) :
    Calls Try.prog 13 #[.int .u16 sz, .int .i64 cells, .slice a0 len0 cap0] w fun e w' => e = .returned (.bool true) ∧ Below w.heap.size w w' := by
  have ACTS := Lib.hid acts
  clear acts
  by_cases hlen : 80 < len0
  · go_enter Try.func13, Try.ntmps13
    go_wp2_with fail
    refine (fawake_any w).mono ?_
    rintro e w2 ⟨rfl, b2⟩
    go_wp2_with fail
    go_ret
    exact ⟨rfl, b2⟩
  · go_enter Try.func13, Try.ntmps13
    go_wp2_with fail
    refine (fawake_any w).mono ?_
    rintro e w2 ⟨rfl, b2⟩
    go_wp2_with fail
    refine (new_ok sz w2 (by omega)).mono ?_
    rintro e w3 ⟨p, R3, rfl, s3, f3, t3⟩
    have b3 : Below w.heap.size w w3 := b2.trans (t3.toBelow b2.size (fun _ h => h.elim))
    have F3 : From w.heap.size p R3 := fun k hk => Nat.le_trans b2.size (f3 k hk)
    clear t3 b2 f3
    by_cases hc : cells < 1 ∨ 10000 < cells
    · have SN := Lib.hid (fnew_arg ⟨p, 0, Option.none⟩ cells hc w3)
      have LV := Lib.hid (live_any s3)
      clear s3 hlen
      rcases hc with hc | hc
      all_goals
        go_wp2_with fail
        refine SN.out.mono ?_
        rintro e w4 ⟨rfl, rfl⟩
        go_wp2_with fail
        refine LV.out.mono ?_
        rintro e w4 ⟨rfl, rfl⟩
        go_wp2_with fail
        go_ret
        exact ⟨rfl, b3⟩
    · obtain ⟨n, rfl⟩ := Int.eq_ofNat_of_zero_le (show 0 ≤ cells by omega)
      have hn1 : 1 ≤ n := by omega
      have hn2 : n ≤ 10000 := by omega
      obtain ⟨c, hcls⟩ : ∃ c, c = cls (12 * (n : Int)) := ⟨_, rfl⟩
      have CL := fun w => class_any (12 * (n : Int)) (by omega) w
      rw [← hcls] at CL
      have CL := Lib.hid CL
      have hw : IntKind.i64.wrap (12 * (n : Int)) = 12 * (n : Int) := IntWalk.i64_in _ (by omega)
      have hc4 : c ≤ 4194304 := by rw [hcls]; exact cls_le (by omega)
      have hc8 : 12 * n ≤ c := by have := cls_enough (n := 12 * (n : Int)) (by omega); rw [← hcls] at this; omega
      clear hc
      by_cases hfit : sz < c
      · have SN := Lib.hid (fnew_full n hn1 hn2 (take_full s3 (12 * (n : Int)) (by omega) (by omega) rfl (by rw [← hcls]; show sz < 0 + c; omega)))
        have LV := Lib.hid (fun k => live_any (s3.drewN k))
        clear s3 hlen hcls
        go_wp2_with fail
        refine SN.out.mono ?_
        rintro e w4 ⟨rfl, k, rfl⟩
        go_wp2_with fail
        refine (CL.out _).mono ?_
        rintro e w4 ⟨rfl, rfl⟩
        go_wp2_with fail
        refine (LV.out _).mono ?_
        rintro e w4 ⟨rfl, rfl⟩
        go_wp2_with fail
        go_ret
        exact ⟨rfl, b3.trans ((Touch.drewN (fun _ => False) _ _).toBelow b3.size (fun _ h => h.elim))⟩
      · have MK := Lib.hid (fnew s3 n hn1 hn2 c hcls.symm rfl (by show 0 + c ≤ sz; omega) (good_zeros _) (by simp [Ar.fresh]) (by simp [Ar.fresh]))
        clear s3 hcls
        go_wp2_with fail
        refine MK.out.mono ?_
        rintro e w4 ⟨q, R, rfl, on4, st4, hq⟩
        have F := F3.step st4 b3.size
        have b4 := b3.trans (st4.below F3 b3.size)
        have hq4 : w.heap.size ≤ q := Nat.le_trans b3.size hq
        clear st4 MK F3 b3 hq
        obtain ⟨A0, hA0⟩ : ∃ A, A = (({ Ar.fresh sz with height := (Ar.fresh sz).height + c } : Ar).took (Ar.fresh sz).height c) := ⟨_, rfl⟩
        have HA := Lib.hid (show A0.taken 0 = some (c : Int) ∧ (∀ y, A0.rooms y = []) ∧ A0.live = (c : Int) from by
          subst hA0
          exact ⟨by simp [Ar.took, Ar.fresh, setAt], fun _ => rfl, by simp [Ar.took, Ar.fresh]⟩)
        rw [← hA0] at on4
        have P4 : FPlays w n q p A0 R w4 [] [] Option.none 0 := ⟨⟨_, A0.b, rfl, rfl, on4⟩, ERow.nil _ _ _ _, b4, hq4, F⟩
        clear hA0 on4 F b4 hq4
        go_wp2_with fail
        refine (CL.out _).mono ?_
        rintro e w5 ⟨rfl, rfl⟩
        have HC4 := Lib.hid hc4
        clear CL hw hc4 hc8
        go_wp2_with fail
        refine loop13 (by omega) hn1 hn2 ACTS.out (WF.intro rfl ⟨0, [], Option.none, 0, rfl, rfl, Nat.zero_le _, P4, rfl, rfl, rfl, rfl, rfl⟩) ?_
        clear P4 ACTS
        rintro a9 w9 ⟨u, ⟨j, ms, a, cap, u11, u12, hj, P, u1, u2, u7, u9, u10⟩, rfl⟩
        simp only [frame13, u1, u2, u7, u9, u10, u11, u12]
        clear u1 u2 u7 u9 u10 u11 u12 hj
        have CL := Lib.hid (P.close (by have := HC4.out; omega) HA.out)
        clear P
        go_wp2_with fail
        refine CL.out.mono ?_
        rintro e w6 ⟨rfl, S', R', A', s6, hcl, a6, hlv, b6⟩
        have LV := live_any a6
        rw [hlv] at LV
        have LV := Lib.hid LV
        have CG := Lib.hid (fclose_gone s6 hcl)
        have HG := Lib.hid (fdepth_gone s6 hcl)
        clear s6 a6 hlv hcl CL
        go_wp2_with fail
        refine LV.out.mono ?_
        rintro e w7 ⟨rfl, rfl⟩
        go_wp2_with fail
        refine CG.out.mono ?_
        rintro e w7 ⟨rfl, rfl⟩
        go_wp2_with fail
        refine HG.out.mono ?_
        rintro e w7 ⟨rfl, rfl⟩
        go_wp2_with fail
        go_ret
        exact ⟨rfl, b6⟩
end Go.Proofs.Ytmjnoboeffajbaa
