/- ArenaRooms: the walk. -/
import Derived.Test.YtmjnoboeffajbaaRi
namespace Go.Proofs.Ytmjnoboeffajbaa
open Go.RowKit Go.Maps
set_option linter.unusedSimpArgs false
set_option linter.unusedVariables false

set_option maxRecDepth 100000 in
set_option maxHeartbeats 4000000 in
theorem rplays_walk (size : Int) (a0 : Option Addr) (len0 cap0 : Nat) (w : World) (acts : RActs w a0 len0) :
    Calls Try.prog 4 #[.int .i64 size, .slice a0 len0 cap0] w fun e w' => e = .returned (.bool true) ∧ Below w.heap.size w w' := by
  have ACTS := Lib.hid acts
  clear acts
  by_cases hlen : 60 < len0
  · go_enter Try.func4, Try.ntmps4
    go_wp2_with fail
    refine (awake_any w).mono ?_
    rintro e w2 ⟨rfl, b2⟩
    go_wp2_with fail
    go_ret
    exact ⟨rfl, b2⟩
  · by_cases hs : size < 0 ∨ 4194304 < size
    · have NE := Lib.hid (fun w => new_err size w hs)
      rcases hs with hs | hs
      all_goals
        go_enter Try.func4, Try.ntmps4
        go_wp2_with fail
        refine (awake_any w).mono ?_
        rintro e w2 ⟨rfl, b2⟩
        go_wp2_with fail
        refine (NE.out _).mono ?_
        rintro e w3 ⟨rfl, rfl⟩
        go_wp2_with fail
        go_ret
        exact ⟨rfl, b2⟩
    · obtain ⟨n, rfl⟩ := Int.eq_ofNat_of_zero_le (show 0 ≤ size by omega)
      have hn2 : n ≤ 4194304 := by omega
      clear hs
      go_enter Try.func4, Try.ntmps4
      go_wp2_with fail
      refine (awake_any w).mono ?_
      rintro e w2 ⟨rfl, b2⟩
      go_wp2_with fail
      refine (new_ok n w2 hn2).mono ?_
      rintro e w3 ⟨p, R3, rfl, s3, f3, t3⟩
      have b3 : Below w.heap.size w w3 := b2.trans (t3.toBelow b2.size (fun _ h => h.elim))
      have F3 : From w.heap.size p R3 := fun k hk => Nat.le_trans b2.size (f3 k hk)
      clear t3 b2 f3
      go_wp2_with fail
      refine loop4 (by omega) hn2 ACTS.out (WR.intro rfl ⟨0, Ar.fresh n, R3, [], Option.none, 0, rfl, rfl, rfl, rfl, Nat.zero_le _, ⟨s3, rfl, F3, ERow.nil _ _ _ _, b3, RInv.fresh n⟩, rfl, rfl, rfl⟩) ?_
      clear s3 F3 b3 ACTS
      rintro a9 w9 ⟨u, ⟨j, A, R, l, a, cap, u7, u8, u9, u10, hj, P, u0, u1, u5⟩, rfl⟩
      simp only [frame4, u0, u1, u5, u7, u8, u9, u10]
      clear u0 u1 u5 u7 u8 u9 u10
      have hll := P.inv.len
      have PH := Lib.hid P
      clear P
      go_wp2_with fail
      go_loopw [21] (fun iv wl => ∃ i : Nat, iv = .int .i64 i ∧ i ≤ l.length ∧ wl = w9) (fun iv _ => l.length - (intOf iv).toNat)
      case atStart => exact ⟨0, rfl, Nat.zero_le _, rfl⟩
      case round =>
        obtain ⟨i, rfl, hi, rfl⟩ := hrel
        by_cases hik : i < l.length
        · rcases PH.out.row.form with ⟨_, _, hf⟩ | ⟨gm, rfl, hcap, _⟩
          · rw [hf] at hik; simp at hik
          obtain ⟨r, hr⟩ : ∃ r, l[i]? = some r := ⟨_, List.getElem?_eq_getElem hik⟩
          have M0 : _ = some (Value.int .i64 (r.pos : Int)) := PH.out.row.cell hr 0 (by decide)
          have M1 : _ = some (Value.int .i64 (r.sz : Int)) := PH.out.row.cell hr 1 (by decide)
          have M2 : _ = some (Value.bool r.tk) := PH.out.row.cell hr 2 (by decide)
          rw [show i * RE.K + 0 = i * 3 from rfl] at M0
          rw [show i * RE.K + 1 = i * 3 + 1 from rfl] at M1
          rw [show i * RE.K + 2 = i * 3 + 2 from rfl] at M2
          have RM := room_any PH.out.ar (r.pos : Int)
          have hmem : r ∈ l := List.mem_iff_getElem?.2 ⟨i, hr⟩
          cases htk : r.tk with
          | true =>
            have ht : A.taken r.pos = some (r.sz : Int) := (PH.out.inv.tk _ _).2 ⟨r, hmem, htk, rfl, rfl⟩
            rw [ht] at RM
            simp only [Option.getD_some, Option.isSome_some] at RM
            rw [htk] at M2
            have RM := Lib.hid RM
            clear htk hr hmem ht
            go_wp2_with fail
            refine RM.out.mono ?_
            rintro e w7 ⟨rfl, rfl⟩
            clear RM
            go_wp2_with fail
            go_roundw
            case rel => exact ⟨i + 1, by go_num, by omega, trivial⟩
            case measure => simp [intOf]; omega
          | false =>
            have ht : A.taken r.pos = Option.none := by
              cases e : A.taken r.pos with
              | none => rfl
              | some c =>
                obtain ⟨s, hs, h1, h2, _⟩ := (PH.out.inv.tk _ _).1 e
                have hsr : s = r := by
                  have hnd := PH.out.inv.nd
                  obtain ⟨k, hk, ek⟩ := List.mem_iff_getElem.1 hs
                  have hk' : l[k]? = some s := by rw [List.getElem?_eq_getElem hk, ek]
                  have : k = i := (List.getElem?_inj (by simpa using hk) hnd).1 (by
                    rw [List.getElem?_map, List.getElem?_map, hk', hr]
                    simp; omega)
                  rw [this, hr] at hk'
                  cases hk'
                  rfl
                rw [hsr, htk] at h1
                cases h1
            rw [ht] at RM
            simp only [Option.getD_none, Option.isSome_none] at RM
            rw [htk] at M2
            have RM := Lib.hid RM
            clear htk hr hmem ht
            go_wp2_with fail
            refine RM.out.mono ?_
            rintro e w7 ⟨rfl, rfl⟩
            clear RM
            go_wp2_with fail
            go_roundw
            case rel => exact ⟨i + 1, by go_num, by omega, trivial⟩
            case measure => simp [intOf]; omega
        · obtain rfl : i = l.length := by omega
          have LV := Lib.hid (live_any PH.out.ar)
          have HT := Lib.hid (height_any PH.out.ar)
          go_wp2_with fail
          refine LV.out.mono ?_
          rintro e w7 ⟨rfl, rfl⟩
          go_wp2_with fail
          refine HT.out.mono ?_
          rintro e w7 ⟨rfl, rfl⟩
          go_wp2_with fail
          go_ret
          exact ⟨rfl, PH.out.bel⟩
end Go.Proofs.Ytmjnoboeffajbaa
