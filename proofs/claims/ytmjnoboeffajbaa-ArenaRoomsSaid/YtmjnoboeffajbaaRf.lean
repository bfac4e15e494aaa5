/- ArenaRooms: a room cut off. -/
import Derived.Test.YtmjnoboeffajbaaRc
namespace Go.Proofs.Ytmjnoboeffajbaa
open Go.RowKit Go.Maps
set_option linter.unusedSimpArgs false
set_option linter.unusedVariables false

set_option maxRecDepth 1000000 in
set_option maxHeartbeats 4000000 in
theorem rcase_tFresh {w : World} {n p : Nat} {A : Ar} {R : Rp} {wr : World} {u : Nat → Value} {j : Nat} {l : List Rm} {a : Option Addr} {cap g o len0 cap0 : Nat} {gv : Bool} {x : Int}
    (H : Rrd w n p A R wr u j l a cap g o len0 cap0 gv x) {K0 : Act → World → Prop} {c : Nat} (hgv : gv = false) (h0 : 0 ≤ x) (h1 : x ≤ 4194304) (hc : c = cls x) (hk : lastK (freeOf c) l l.length < 0) (hp : A.height + c ≤ n) :
    Code.wp Try.prog body4 (ROut w n p j g o len0 cap0 K0) (frame4 u) wr := by
  obtain ⟨u0, u1, u5, u7, u8, u9, u10, hj, l60, d0, d1, P, hxr, hn2⟩ := H
  conv => arg 2; whnf
  simp only [frame4, u0, u1, u5, u7, u8, u9, u10]
  clear u0 u1 u5 u7 u8 u9 u10
  have hll := P.inv.len
  have hlv := P.inv.lv
  have hK1 : lastK (freeOf c) l l.length = -1 := by have := lastK_range (freeOf c) l l.length; omega
  have CA := Lib.hid (P.cut (by omega) x h0 h1 hc.symm hk hp)
  have CLS := Lib.hid (fun w => rclass_any x h1 w)
  have hcg := cls_ge x
  have hcl := cls_le h1
  rw [← hc] at hcg hcl CLS
  have hA := P.ar.hh
  rw [P.nn] at hA
  have hp2 : (c : Int) ≤ (n : Int) - (A.height : Int) := by omega
  have ew : IntKind.i64.wrap ((n : Int) - (A.height : Int)) = (n : Int) - (A.height : Int) := IntWalk.i64_in _ (by omega)
  have ew2 : IntKind.i64.wrap ((A.height : Int) + (c : Int)) = (A.height : Int) + (c : Int) := IntWalk.i64_in _ (by omega)
  have ew3 : IntKind.i64.wrap (A.live + (c : Int)) = A.live + (c : Int) := IntWalk.i64_in _ (by omega)
  clear P hc
  subst hgv
  go_wp2_with fail
  refine CA.out.mono ?_
  rintro e w6 ⟨rfl, A', R', P6, eh, el, st⟩
  have PH := Lib.hid P6
  clear CA P6 st
  go_wp2_with fail
  refine (CLS.out _).mono ?_
  rintro e w7 ⟨rfl, rfl⟩
  clear CLS
  go_wp2_with fail
  go_loopw [19, 20] (fun av kv wl => ∃ i : Nat, av = .int .i64 (lastK (freeOf c) l i) ∧ kv = .int .i64 i ∧ i ≤ l.length ∧ wl = w6) (fun _ kv _ => l.length - (intOf kv).toNat)
  case atStart => exact ⟨0, rfl, rfl, Nat.zero_le _, rfl⟩
  case round =>
    obtain ⟨i, rfl, rfl, hi, rfl⟩ := hrel
    by_cases hik : i < l.length
    · rcases PH.out.row.form with ⟨_, _, hf⟩ | ⟨gm, rfl, hcap, _⟩
      · rw [hf] at hik; simp at hik
      obtain ⟨⟨ps, sz, tk⟩, hr⟩ : ∃ r, l[i]? = some r := ⟨_, List.getElem?_eq_getElem hik⟩
      have M0 := PH.out.row.cell hr 0 (by decide)
      have M1 := PH.out.row.cell hr 1 (by decide)
      have M2 := PH.out.row.cell hr 2 (by decide)
      have M0 : _ = some (Value.int .i64 (ps : Int)) := M0
      have M1 : _ = some (Value.int .i64 (sz : Int)) := M1
      have M2 : _ = some (Value.bool tk) := M2
      rw [show i * RE.K + 0 = i * 3 from rfl] at M0
      rw [show i * RE.K + 1 = i * 3 + 1 from rfl] at M1
      rw [show i * RE.K + 2 = i * 3 + 2 from rfl] at M2
      have LS := lastK_succ (p := freeOf c) hr
      by_cases hp : freeOf c ⟨ps, sz, tk⟩ = true
      · rw [if_pos hp] at LS
        have hp2 : tk = false ∧ (sz : Int) = c := by simpa [freeOf, takenAt] using hp
        obtain ⟨rfl, hp3⟩ := hp2
        clear hp
        go_wp2_with fail
        go_roundw
        case rel => exact ⟨i + 1, by rw [LS], by go_num, by omega, trivial⟩
        case measure => simp [intOf]; omega
      · rw [if_neg hp] at LS
        cases tk with
        | true =>
          clear hp
          go_wp2_with fail
          go_roundw
          case rel => exact ⟨i + 1, by rw [LS], by go_num, by omega, trivial⟩
          case measure => simp [intOf]; omega
        | false =>
          have hp3 : ¬ (sz : Int) = c := by simpa [freeOf, takenAt] using hp
          clear hp
          go_wp2_with fail
          go_roundw
          case rel => exact ⟨i + 1, by rw [LS], by go_num, by omega, trivial⟩
          case measure => simp [intOf]; omega
    · obtain rfl : i = l.length := by omega
      rw [hK1]
      obtain ⟨a2, cp2, w9, hap, r9, t9⟩ := PH.out.row.app PH.out.bel.size PH.out.ltf (by omega) ⟨A.height, c, true⟩ #[.int .i64 A.height, .int .i64 c, .bool true] rfl
      have P9 := PH.out.rowed r9 t9
      have HAP := Lib.hid hap
      clear PH r9 t9 hap
      have LV := live_any P9.ar
      have HT := height_any P9.ar
      have SZ := size_any P9.ar
      rw [el] at LV
      rw [eh] at HT
      rw [P9.nn] at SZ
      have LV := Lib.hid LV
      have HT := Lib.hid HT
      have SZ := Lib.hid SZ
      have PF := Lib.hid P9
      clear P9
      go_wp2_with (at_builtin; refine wpList_append_run rfl _ _ 35 35 rfl rfl rfl HAP.out ?_)
      refine LV.out.mono ?_
      rintro e w8 ⟨rfl, rfl⟩
      go_wp2_with fail
      refine HT.out.mono ?_
      rintro e w8 ⟨rfl, rfl⟩
      go_wp2_with fail
      refine SZ.out.mono ?_
      rintro e w8 ⟨rfl, rfl⟩
      clear LV HT SZ
      go_wp2_with fail
      exact ⟨WR.intro rfl ⟨j + 1, _, _, l ++ [⟨A.height, c, true⟩], _, _, by simp, by rw [eh]; simp, by rw [el]; rfl, by go_num, by omega, PF.out, rfl, rfl, rfl⟩, by simp [Rmu, intOf]; omega⟩
end Go.Proofs.Ytmjnoboeffajbaa
