/- The walk of the law ArenaAgain: it answers true and writes nothing that was there, whatever bytes come in. -/
import Derived.Test.YtmjnoboeffajbaaAn
namespace Go.Proofs.Ytmjnoboeffajbaa
open Go.RowKit Go.Maps
set_option linter.unusedSimpArgs false
set_option linter.unusedVariables false

variable {w : World} {p : Nat} {A : Ar} {R : Rp}

/-- The classes of the first numbers. -/
def classes (zs : List Int) (j : Nat) : List Int := (List.range j).map fun i => ((cls (zs.getD i 0) : Nat) : Int)
theorem classes_succ (zs : List Int) (j : Nat) : classes zs (j + 1) = classes zs j ++ [((cls (zs.getD j 0) : Nat) : Int)] := by simp [classes, List.range_succ]
theorem classes_length (zs : List Int) (j : Nat) : (classes zs j).length = j := by simp [classes]

set_option maxHeartbeats 2000000 in
theorem again_walk (a0 : Option Addr) (len0 cap0 : Nat) (z0 : List Int) (a1 : Option Addr) (len1 cap1 : Nat) (z1 : List Int) (w : World) (w0 : IsRow .u8 w a0 len0 cap0 z0) (w1 : IsRow .u8 w a1 len1 cap1 z1) :
    Calls Try.prog 3 #[.slice a0 len0 cap0, .slice a1 len1 cap1] w fun e w' => e = .returned (.bool true) ∧ Below w.heap.size w w' := by
  have W0 := Lib.hid w0
  have W1 := Lib.hid w1
  clear w0 w1
  by_cases hl0 : 30 < len0
  · go_enter Try.func3, Try.ntmps3
    go_wp2_with fail
    refine (awake_any w).mono ?_
    rintro e w2 ⟨rfl, hb⟩
    go_wp2_with fail
    go_ret
    exact ⟨rfl, hb⟩
  by_cases hl1 : 30 < len1
  · go_enter Try.func3, Try.ntmps3
    go_wp2_with fail
    refine (awake_any w).mono ?_
    rintro e w2 ⟨rfl, hb⟩
    go_wp2_with fail
    go_ret
    exact ⟨rfl, hb⟩
  go_enter Try.func3, Try.ntmps3
  go_wp2_with fail
  refine (awake_any w).mono ?_
  rintro e w2 ⟨rfl, b2⟩
  go_wp2_with fail
  refine (new_ok 8192 w2 (by omega)).mono ?_
  rintro e w3 ⟨p, R3, rfl, s3, f3, t3⟩
  have b3 : Below w.heap.size w w3 := b2.trans (t3.toBelow b2.size (fun _ h => h.elim))
  have F3 : From w.heap.size p R3 := fun k hk => Nat.le_trans b2.size (f3 k hk)
  have q3 : Row w.heap.size w3 p R3 Option.none 0 [] := Row.nil _ _ _ _
  clear t3 b2 f3
  go_wp2_with fail
  go_loopw [7, 8] (fun v i wr => ∃ (j : Nat) (a : Option Addr) (cap : Nat) (L : Places) (A : Ar) (R : Rp), i = .int .i64 j ∧ v = .slice a L.length cap ∧ j ≤ len0 ∧ Hid (L.length = j ∧ L.map (·.2) = classes z0 j) ∧ ArAt wr p A R ∧ Cut A L ∧
      Row w.heap.size wr p R a cap (L.map (·.1)) ∧ From w.heap.size p R ∧ Below w.heap.size w wr) (fun _ i _ => len0 - (intOf i).toNat)
  case atStart => exact ⟨0, Option.none, 0, [], _, R3, rfl, rfl, Nat.zero_le _, ⟨rfl, rfl⟩, s3, Cut.fresh, q3, F3, b3⟩
  case round =>
    clear s3 q3 F3 b3
    obtain ⟨j, a, cap, L, A, R, rfl, rfl, hj, HL, s, ct, q, F, b⟩ := hrel
    by_cases hlt : j < len0
    · obtain ⟨g, off, rfl, hg, hcell, hwf⟩ := IsRow.at W0.out b hlt
      have hz := bounds_u8 hwf
      obtain ⟨hL1, hL2⟩ := HL.out
      have hsucc := classes_succ z0 j
      have hc1 := cls_ge (z0.getD j 0)
      have hc2 := cls_byte (n := z0.getD j 0) (by omega)
      generalize z0.getD j 0 = z at *
      have hheight := ct.height
      have htb := total_bound L ct.bnd
      have hn := ct.n
      have hlive := ct.live
      have TK := Lib.hid (take_fresh s z (by omega) (by omega) (ct.rooms _) (by omega) (by omega) (by omega))
      have ct2 := ct.next (cls z) hc1 hc2
      have HS := Lib.hid (And.intro hL1 (And.intro hL2 hsucc))
      clear hL1 hL2 hsucc hheight htb hn hlive hwf s ct
      go_wp2_with fail
      refine TK.out.mono ?_
      rintro e w4 ⟨R4, rfl, s4, st4⟩
      have F4 := F.step st4 b.size
      have q4 := q.step st4
      have b4 := b.trans (st4.below F b.size)
      obtain ⟨a', cap', w5, hap, q5, s5, b5⟩ := q4.app s4 F4 b4.size (by have := HS.out.1; simp; omega) (A.height : Int)
      have HAP := Lib.hid hap
      rw [List.length_map] at HAP
      have b6 := b4.trans b5
      have q6 : Row w.heap.size w5 p R4 a' cap' ((L ++ [((A.height : Int), ((cls z : Nat) : Int))]).map (·.1)) := by simpa using q5
      clear st4 F q4 b4 b hap q5 s4 b5 q TK
      go_wp2_with (at_builtin; refine wpList_append_run rfl _ _ 28 28 rfl rfl rfl HAP.out ?_)
      refine ⟨⟨j + 1, a', cap', L ++ [((A.height : Int), ((cls z : Nat) : Int))], _, R4, by go_num, by simp, by omega, ⟨by simp; exact HS.out.1, ?_⟩, s5, ct2, q6, F4, b6⟩, by simp [intOf]; omega⟩
      rw [HS.out.2.2, ← HS.out.2.1]; simp
    · obtain rfl : j = len0 := by omega
      have hcut := ct.bal
      obtain ⟨hL1, hL2⟩ := HL.out
      have hnn := ct.n
      have hbnd := ct.bnd
      have HH := Lib.hid (show A.live = total L from ct.live)
      generalize hH : A.height = H at *
      have HHe := Lib.hid hH
      have HLL := Lib.hid (And.intro hL1 hL2)
      have hL30 : L.length ≤ 30 := by omega
      clear hlt hj ct hL1 hL2 HL hH
      go_wp2_with fail
      refine (height_any s).mono ?_
      rintro e w4 ⟨rfl, rfl⟩
      go_wp2_with fail
      refine (live_any s).mono ?_
      rintro e w4 ⟨rfl, rfl⟩
      rw [HHe.out, HH.out]
      go_wp2_with fail
      go_loopw [13] (fun i wr => ∃ (k : Nat) (A : Ar) (R : Rp), i = .int .i64 k ∧ k ≤ len1 ∧ ArAt wr p A R ∧ Bal A L H ∧ Row w.heap.size wr p R a cap (L.map (·.1)) ∧ From w.heap.size p R ∧ Below w.heap.size w wr) (fun i _ => len1 - (intOf i).toNat)
      case atStart => exact ⟨0, A, R, rfl, Nat.zero_le _, s, hcut, q, F, b⟩
      case round =>
        clear s hcut q F b
        obtain ⟨k, A, R, rfl, hk, s, bl, q, F, b⟩ := hrel
        by_cases hlt : k < len1 ∧ 0 < L.length
        · obtain ⟨hk1, hL0⟩ := hlt
          obtain ⟨g, off, rfl, hg, hcell, hwf⟩ := IsRow.at W1.out b hk1
          have hz := bounds_u8 hwf
          obtain ⟨z, hze⟩ := Int.eq_ofNat_of_zero_le hz.1
          rw [hze] at hcell hz
          have hm : z % L.length < L.length := Nat.mod_lt _ hL0
          obtain ⟨g2, rfl, hcell2⟩ := q.at (i := z % L.length) (by simpa using hm)
          have hmem : L[z % L.length] ∈ L := List.getElem_mem _
          have hget : (L.map (·.1)).getD (z % L.length) 0 = L[z % L.length].1 := by
            rw [List.getD_eq_getElem?_getD, List.getElem?_map, List.getElem?_eq_getElem hm]; rfl
          rw [hget] at hcell2
          generalize L[z % L.length] = y at *
          have hbd := bl.bounds (by have := HLL.out.1; omega)
          have hcap : (L.map (·.1)).length = L.length := by simp
          clear hwf hze hget
          cases hty : A.taken y.1 with
          | some c =>
            have bl2 := bl.give hmem hty
            have GV := Lib.hid (give_ok s y.1 c hty (by have := hbd.2.2 c; omega) (by omega) (by omega))
            clear s hty bl hbd hcap
            go_wp2_with fail
            refine GV.out.mono ?_
            rintro e w4 ⟨R4, rfl, s4, st4⟩
            have F4 := F.step st4 b.size
            have q4 := q.step st4
            have b4 := b.trans (st4.below F b.size)
            clear F q b st4
            go_wp2_with fail
            go_roundw
            case rel => exact ⟨k + 1, _, R4, by go_num, by omega, s4, bl2, q4, F4, b4⟩
            case measure => simp [intOf]; omega
          | none =>
            have GV := Lib.hid (give_range s y.1 hty)
            clear hty hbd hcap
            go_wp2_with fail
            refine GV.out.mono ?_
            rintro e w4 ⟨rfl, rfl⟩
            go_wp2_with fail
            go_roundw
            case rel => exact ⟨k + 1, _, R, by go_num, by omega, s, bl, q, F, b⟩
            case measure => simp [intOf]; omega
        · have hcase : ¬ k < len1 ∨ (k < len1 ∧ L.length = 0) := by omega
          clear hlt
          rcases hcase with hcase | ⟨hcase, hcase2⟩
          all_goals
            go_wp2_with fail
            go_loopw [14] (fun i wr => ∃ (k : Nat) (A : Ar) (R : Rp), i = .int .i64 k ∧ k ≤ L.length ∧ ArAt wr p A R ∧ Bal A L H ∧ Hid (∀ i (hi : i < L.length), i < k → A.taken L[i].1 = Option.none) ∧ Row w.heap.size wr p R a cap (L.map (·.1)) ∧ From w.heap.size p R ∧ Below w.heap.size w wr) (fun i _ => L.length - (intOf i).toNat)
            case atStart => exact ⟨0, A, R, rfl, Nat.zero_le _, s, bl, fun i hi h0 => by omega, q, F, b⟩
            case round =>
              clear s bl q F b hcase hk
              try clear hcase2
              obtain ⟨k, A, R, rfl, hk, s, bl, hno, q, F, b⟩ := hrel
              by_cases hlt : k < L.length
              · obtain ⟨g2, rfl, hcell2⟩ := q.at (i := k) (by simpa using hlt)
                have hmem : L[k] ∈ L := List.getElem_mem _
                have hget : (L.map (·.1)).getD k 0 = L[k].1 := by
                  rw [List.getD_eq_getElem?_getD, List.getElem?_map, List.getElem?_eq_getElem hlt]; rfl
                rw [hget] at hcell2
                have hbd := bl.bounds (by have := HLL.out.1; omega)
                have hcap : (L.map (·.1)).length = L.length := by simp
                clear hget
                cases hty : A.taken L[k].1 with
                | some c =>
                  have bl2 := bl.give hmem hty
                  have hno2 : ∀ i (hi : i < L.length), i < k + 1 → (A.gave L[k].1 c).taken L[i].1 = Option.none := by
                    intro i hi hik
                    show setAt A.taken L[k].1 Option.none L[i].1 = Option.none
                    by_cases he : L[i].1 = L[k].1
                    · rw [he, setAt_same]
                    · rw [setAt_ne _ _ _ _ he]
                      have hne : i ≠ k := fun e => he (by simp only [e])
                      exact hno.out i hi (by omega)
                  have HNO := Lib.hid hno2
                  have GV := Lib.hid (give_ok s L[k].1 c hty (by have := hbd.2.2 c; omega) (by omega) (by omega))
                  generalize L[k].1 = y at *
                  clear s hty bl hbd hcap hno hno2 hmem
                  go_wp2_with fail
                  refine GV.out.mono ?_
                  rintro e w4 ⟨R4, rfl, s4, st4⟩
                  have F4 := F.step st4 b.size
                  have q4 := q.step st4
                  have b4 := b.trans (st4.below F b.size)
                  clear F q b st4
                  go_wp2_with fail
                  go_roundw
                  case rel => exact ⟨k + 1, _, R4, by go_num, by omega, s4, bl2, HNO, q4, F4, b4⟩
                  case measure => simp [intOf]; omega
                | none =>
                  have hno2 : ∀ i (hi : i < L.length), i < k + 1 → A.taken L[i].1 = Option.none := by
                    intro i hi hik
                    by_cases he : i = k
                    · simp only [he]; exact hty
                    · exact hno.out i hi (by omega)
                  have HNO := Lib.hid hno2
                  have GV := Lib.hid (give_range s L[k].1 hty)
                  generalize L[k].1 = y at *
                  clear hty hbd hcap hno hno2 hmem
                  go_wp2_with fail
                  refine GV.out.mono ?_
                  rintro e w4 ⟨rfl, rfl⟩
                  go_wp2_with fail
                  go_roundw
                  case rel => exact ⟨k + 1, _, R, by go_num, by omega, s, bl, HNO, q, F, b⟩
                  case measure => simp [intOf]; omega
              · obtain rfl : k = L.length := by omega
                have bk := bl.back (by
                  intro z hz
                  obtain ⟨i, hi, rfl⟩ := List.mem_iff_getElem.1 hz
                  exact hno.out i hi hi)
                have HV := Lib.hid bk.live
                clear hno bl q hlt
                go_wp2_with fail
                refine (live_any s).mono ?_
                rintro e w4 ⟨rfl, rfl⟩
                rw [HV.out]
                clear hk
                go_wp2_with fail
                go_loopw [15] (fun i wr => ∃ (k : Nat) (A : Ar) (R : Rp), i = .int .i64 k ∧ k ≤ j ∧ ArAt wr p A R ∧ Back A (L.drop k) H (total (L.take k)) ∧ From w.heap.size p R ∧ Below w.heap.size w wr) (fun i _ => j - (intOf i).toNat)
                case atStart => exact ⟨0, A, R, rfl, Nat.zero_le _, s, by simpa [total] using bk, F, b⟩
                case round =>
                  clear s bk F b HV
                  obtain ⟨k, A, R, rfl, hk, s, bk, F, b⟩ := hrel
                  by_cases hlt : k < j
                  · obtain ⟨g, off, rfl, hg, hcell, hwf⟩ := IsRow.at W0.out b hlt
                    have hz := bounds_u8 hwf
                    have hkL : k < L.length := by have := HLL.out.1; omega
                    have hy2 : L[k].2 = ((cls (z0.getD k 0) : Nat) : Int) := by
                      have h1 := HLL.out.2
                      have h2 : (L.map (·.2))[k]? = (classes z0 j)[k]? := by rw [h1]
                      simp only [List.getElem?_map, List.getElem?_eq_getElem hkL, Option.map_some, classes, List.getElem?_range hlt, Option.some.injEq] at h2
                      exact h2
                    rw [List.drop_eq_getElem_cons hkL] at bk
                    obtain ⟨xs, x, hxs, hbk⟩ := bk.next
                    have hlv := bk.live
                    have htk : total (L.take (k + 1)) = total (L.take k) + L[k].2 := by
                      rw [List.take_succ_eq_append_getElem hkL, total_append]; simp [total]
                    have htb := total_bound (L.take k) (fun z hz => hbnd z (List.mem_of_mem_take hz))
                    have htl : (L.take k).length ≤ k := List.length_take_le _ _
                    rw [← htk] at hbk
                    rw [hy2] at hxs hbk
                    generalize z0.getD k 0 = z at *
                    have hx0 := s.inR (cls z) x (by rw [hxs]; simp)
                    obtain ⟨xn, rfl⟩ := Int.eq_ofNat_of_zero_le hx0.1
                    have TK := Lib.hid (take_again s z (by omega) (by omega) xn xs hxs (by omega) (by omega))
                    have HBK := Lib.hid hbk
                    clear hwf hy2 hxs hbk hlv htk htb htl hx0 bk s hkL
                    go_wp2_with fail
                    refine TK.out.mono ?_
                    rintro e w4 ⟨R4, rfl, s4, st4⟩
                    have F4 := F.step st4 b.size
                    have b4 := b.trans (st4.below F b.size)
                    clear F b st4 TK
                    go_wp2_with fail
                    go_roundw
                    case rel => exact ⟨k + 1, _, R4, by go_num, by omega, s4, HBK.out _ _, F4, b4⟩
                    case measure => simp [intOf]; omega
                  · obtain rfl : k = j := by omega
                    have hh := bk.height
                    have hlv := bk.live
                    have hlen := HLL.out.1
                    rw [List.take_of_length_le (by omega)] at hlv
                    have HX := Lib.hid (And.intro hh hlv)
                    clear hh hlv hlen bk hlt hk
                    go_wp2_with fail
                    refine (height_any s).mono ?_
                    rintro e w4 ⟨rfl, rfl⟩
                    rw [HX.out.1]
                    go_wp2_with fail
                    refine (live_any s).mono ?_
                    rintro e w4 ⟨rfl, rfl⟩
                    rw [HX.out.2]
                    go_wp2_with fail
                    go_ret
                    exact ⟨rfl, b⟩
end Go.Proofs.Ytmjnoboeffajbaa
