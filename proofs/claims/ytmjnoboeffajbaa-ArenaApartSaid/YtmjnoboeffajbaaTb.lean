/- Rooms that are taken don't meet: the walk. -/
import Derived.Test.YtmjnoboeffajbaaTa
namespace Go.Proofs.Ytmjnoboeffajbaa
open Go.RowKit Go.Maps
set_option linter.unusedSimpArgs false
set_option linter.unusedVariables false

variable {w : World} {p : Nat} {A : Ar} {R : Rp}

def places (L : Rooms) : List Int := L.map fun z => ((z.1 : Nat) : Int)
theorem places_length (L : Rooms) : (places L).length = L.length := by simp [places]
theorem places_get (L : Rooms) (i : Nat) (h : i < L.length) : (places L).getD i 0 = ((L[i].1 : Nat) : Int) := by
  rw [places, List.getD_eq_getElem?_getD, List.getElem?_map, List.getElem?_eq_getElem h]; rfl
theorem bytesOf_get (l : List Int) (i : Nat) : (bytesOf l)[i]? = (vals l)[i]? := by simp [bytesOf, vals]
theorem own_cell5 {w : World} {B g n cap : Nat} {xs : List Int} (h : w.ownsRow B 5 1 (.slice (some ⟨g, 0, Option.none⟩) n cap) n (vals xs)) (i : Nat) (hi : i < n) :
    w.cell? ⟨g, i, Option.none⟩ = some (.int .u8 (xs.getD i 0)) := by
  rcases h.2 with ⟨hv, hn⟩ | ⟨g', cap', cur, hv, hbg, hg, hnc, hcm, hcs, htake⟩
  · omega
  · simp only [Value.slice.injEq, Option.some.injEq, Addr.mk.injEq] at hv
    obtain ⟨⟨rfl, -⟩, -, rfl⟩ := hv
    rw [cell_of_row _ _ _ _ _ _ hg]
    have h7 : (cur.toList.take (n * 1))[i]? = (vals xs)[i]? := by rw [htake]
    have hl : (vals xs).length = n := by rw [← htake]; simp; omega
    have hx : i < xs.length := by simpa [vals] using (by omega : i < (vals xs).length)
    rw [List.getElem?_take, if_pos (by omega)] at h7
    simp only [vals, List.getElem?_map, List.getElem?_eq_getElem hx, Option.map_some] at h7
    rw [List.getD_eq_getElem?_getD, List.getElem?_eq_getElem hx]
    simpa using h7

set_option maxRecDepth 100000 in
set_option maxHeartbeats 4000000 in
theorem apart_walk (a0 : Option Addr) (len0 cap0 : Nat) (z0 : List Int) (a1 : Option Addr) (len1 cap1 : Nat) (z1 : List Int) (w : World) (w0 : IsRow .u8 w a0 len0 cap0 z0) (w1 : IsRow .u8 w a1 len1 cap1 z1) :
    Calls Try.prog 5 #[.slice a0 len0 cap0, .slice a1 len1 cap1] w fun e w' => e = .returned (.bool true) ∧ Below w.heap.size w w' := by
  have W0 := Lib.hid w0
  have W1 := Lib.hid w1
  clear w0 w1
  by_cases hl0 : 30 < len0
  · go_enter Try.func5, Try.ntmps5
    go_wp2_with fail
    refine (awake_any w).mono ?_
    rintro e w2 ⟨rfl, hb⟩
    go_wp2_with fail
    go_ret
    exact ⟨rfl, hb⟩
  by_cases hl1 : 30 < len1
  · go_enter Try.func5, Try.ntmps5
    go_wp2_with fail
    refine (awake_any w).mono ?_
    rintro e w2 ⟨rfl, hb⟩
    go_wp2_with fail
    go_ret
    exact ⟨rfl, hb⟩
  have d30 : ∀ i : Decidable ((30 : Int) < (len0 : Int)), @decide ((30 : Int) < (len0 : Int)) i = false := fun i => by rw [decide_eq_false_iff_not]; omega
  have d31 : ∀ i : Decidable ((30 : Int) < (len1 : Int)), @decide ((30 : Int) < (len1 : Int)) i = false := fun i => by rw [decide_eq_false_iff_not]; omega
  go_enter Try.func5, Try.ntmps5
  go_wp2_with fail
  refine (awake_any w).mono ?_
  rintro e w2 ⟨rfl, b2⟩
  go_wp2_with fail
  refine (new_ok 6000 w2 (by omega)).mono ?_
  rintro e w3 ⟨p, R3, rfl, s3, f3, t3⟩
  have b3 : Below w.heap.size w w3 := b2.trans (t3.toBelow b2.size (fun _ h => h.elim))
  have F3 : From w.heap.size p R3 := fun k hk => Nat.le_trans b2.size (f3 k hk)
  have q3 : Row w.heap.size w3 p R3 Option.none 0 [] := Row.nil _ _ _ _
  clear t3 b2 f3
  go_wp2_with fail
  go_loopw [7, 8] (fun v i wr => ∃ (j : Nat) (a : Option Addr) (cap : Nat) (L : Rooms) (A : Ar) (R : Rp), i = .int .i64 j ∧ v = .slice a L.length cap ∧ j ≤ len0 ∧ Hid (L.length = j) ∧ ArAt wr p A R ∧ Apt A L ∧ Full A.b L ∧
      Row w.heap.size wr p R a cap (places L) ∧ From w.heap.size p R ∧ Below w.heap.size w wr) (fun _ i _ => len0 - (intOf i).toNat)
  case atStart => exact ⟨0, Option.none, 0, [], _, R3, rfl, rfl, Nat.zero_le _, Lib.hid rfl, s3, Apt.fresh, Full.nil _, q3, F3, b3⟩
  case round =>
    clear s3 q3 F3 b3
    obtain ⟨j, a, cap, L, A, R, rfl, rfl, hj, HL, s, ap, fu, q, F, b⟩ := hrel
    by_cases hlt : j < len0 ∧ A.height + cls (z0.getD j 0) ≤ 6000
    · obtain ⟨hlt, hfit⟩ := hlt
      obtain ⟨g, off, rfl, hg, hcell, hwf⟩ := IsRow.at W0.out b hlt
      have hz := bounds_u8 hwf
      have HCELL := Lib.hid (fun (w6 : World) (b6 : Below w.heap.size w w6) => (IsRow.at W0.out b6 hlt))
      generalize z0.getD j 0 = z at *
      have hcl := cls_cl (z := z) (by omega) (by omega)
      have hidem := cls_idem hcl
      have hen := cls_enough (n := z) (by omega)
      have hn := ap.n
      have hl0 := ap.live0
      have hl1 := ap.live1
      have hh := s.hh
      have hbl := s.hbl
      have TK := Lib.hid (take_fresh s z (by omega) (by omega) (ap.rooms _) (by omega) (by omega) (by omega))
      have CA := Lib.hid (fun w => class_any z (by omega) w)
      have hcb := hcl.bnd
      have ev : IntKind.u8.wrap ((j : Int) + 1) = (j : Int) + 1 := IntWalk.u8_in _ (by omega)
      generalize cls z = c at *
      have HS := Lib.hid HL.out
      have S0 := Lib.hid (And.intro ap (And.intro fu (And.intro hn (And.intro hbl hh))))
      clear hwf hn hl0 hl1 hh hbl s ap fu
      go_wp2_with fail
      refine TK.out.mono ?_
      rintro e w4 ⟨R4, rfl, s4, st4⟩
      have F4 := F.step st4 b.size
      have q4 := q.step st4
      have b4 := b.trans (st4.below F b.size)
      obtain ⟨a', cap', w5, hap, q5, s5, b5⟩ := q4.app s4 F4 b4.size (by have := HS.out; rw [places_length]; omega) (A.height : Int)
      have HAP := Lib.hid hap
      rw [places_length] at HAP
      have b6 := b4.trans b5
      clear st4 F q4 b4 b hap s4 b5 q TK
      go_wp2_with (at_builtin; refine wpList_append_run rfl _ _ 28 28 rfl rfl rfl HAP.out ?_)
      have RM := room_any s5 (A.height : Int)
      have ety : ((({ A with height := A.height + c } : Ar).took A.height c).taken (A.height : Int)) = some (c : Int) := setAt_same _ _ _
      rw [ety] at RM
      simp only [Option.getD_some, Option.isSome_some] at RM
      have RM2 := Lib.hid RM
      clear RM ety HAP
      go_wp2_with fail
      refine RM2.out.mono ?_
      rintro e w7 ⟨rfl, rfl⟩
      obtain ⟨g', off', ha', hg', hcell, -⟩ := HCELL.out _ b6
      cases ha'
      have hmk := run_make22 c (by omega)
      have hnlt : ¬ ((c : Int) < z) := by omega
      have tA : Touch (fun _ => False) w5 (w5.alloc (.cells (bytesOf (zeros c)) 5)) := Touch.alloc _ _ _
      have hy : (w5.alloc (.cells (bytesOf (zeros c)) 5)).heap[w5.heap.size]? = some (.cells (bytesOf (zeros c)) 5 (0, 0)) := (MapKept.heap_alloc w5 _).1
      have HY := Lib.hid hy
      have TA := Lib.hid tA
      have LW := tA.size
      clear hy tA HCELL RM2
      go_wp2_with fail
      refine (CA.out _).mono ?_
      rintro e w7 ⟨rfl, rfl⟩
      go_wp2_with fail
      generalize hW6 : w5.alloc (.cells (bytesOf (zeros c)) 5) = w6 at *
      clear CA hcell hidem hen
      go_loopw [14] (fun i wr => ∃ (k : Nat), i = .int .i64 k ∧ k ≤ c ∧ Touch (· = w5.heap.size) w6 wr ∧ wr.heap[w5.heap.size]? = some (.cells (bytesOf (List.replicate k ((j : Int) + 1) ++ zeros (c - k))) 5 (0, 0))) (fun i _ => c - (intOf i).toNat)
      case atStart => exact ⟨0, rfl, Nat.zero_le _, Touch.refl _ _, by simpa using HY.out⟩
      case round =>
        obtain ⟨k, rfl, hk, t, hy2⟩ := hrel
        by_cases hlt2 : k < c
        · have hset := fill_set c k ((j : Int) + 1) hlt2
          have hfz : wr.frozen? ⟨w5.heap.size, k, Option.none⟩ = false := by simp [World.frozen?, hy2]
          obtain ⟨u, hu⟩ : ∃ u, wr.cell? ⟨w5.heap.size, k, Option.none⟩ = some u := by
            rw [cell_of_row wr _ _ _ _ _ hy2]
            exact ⟨_, Array.getElem?_eq_getElem (by simp [bytesOf, zeros]; omega)⟩
          have hy3 : (wr.setCell ⟨w5.heap.size, k, Option.none⟩ (.int .u8 ((j : Int) + 1))).heap[w5.heap.size]? = some (.cells (bytesOf (List.replicate (k + 1) ((j : Int) + 1) ++ zeros (c - (k + 1)))) 5 (0, 0)) := by
            rw [← hset, ← bytesOf_set]
            simp [World.setCell, Array.getElem?_modify, hy2]
          have t3 : Touch (· = w5.heap.size) w6 (wr.setCell ⟨w5.heap.size, k, Option.none⟩ (.int .u8 ((j : Int) + 1))) := t.trans (Touch.cell1 _ _ _ _)
          have FIN := Lib.hid (And.intro t3 hy3)
          clear hset hy2 hy3 t3 t
          go_wp2_with fail
          go_roundw
          case rel => exact ⟨k + 1, by go_num, by omega, FIN.out.1, FIN.out.2⟩
          case measure => simp [intOf]; omega
        · obtain rfl : k = c := by omega
          rw [show List.replicate k ((j : Int) + 1) ++ zeros (k - k) = List.replicate k ((j : Int) + 1) by simp [zeros]] at hy2
          have tt : Touch (fun _ => False) w5 wr := TA.out.trans' t (fun _ _ h => h) (fun i hi h => by omega)
          have s8 := s5.kept tt (fun _ _ h => h)
          have CP := copy_ok s8 A.height k k (by have := S0.out.2.2.1; show A.height + k ≤ A.n; omega) (by omega) ⟨w5.heap.size, 0, Option.none⟩ (List.replicate k ((j : Int) + 1)) (by simp) (by
            intro i u hu
            rw [Addr.add_lit, cell_of_row _ _ _ _ _ _ hy2, Nat.zero_add, bytesOf_get]
            exact hu)
          have CP2 := Lib.hid CP
          have q8 : Row w.heap.size wr p R4 a' cap' (places L ++ [(A.height : Int)]) := q5.step (Step.of R4 (tt.mono (fun _ _ h => h.elim)))
          have b8 := b6.trans (tt.toBelow b6.size (fun _ h => h.elim))
          clear CP hy2 t s5 s8 q5 b6 tt HY TA
          go_wp2_with fail
          refine CP2.out.mono ?_
          rintro e w9 ⟨rfl, s9, t9⟩
          have st9 : Step wr w9 p R4 R4 := Step.of R4 (t9.mono (fun k _ h => .inr (.inl h)))
          have q9 := q8.step st9
          have b9 := b8.trans (st9.below F4 b8.size)
          have ap9 := S0.out.1.next k hcl (over (over A.b A.height (zeros k)) A.height (List.replicate k ((j : Int) + 1)))
          have fu9 := S0.out.2.1.next S0.out.1.top k (by rw [S0.out.2.2.2.1]; have := S0.out.2.2.1; omega) ((j : Int) + 1) (by rw [HS.out]; omega)
          have HL9 : Hid ((L ++ [(A.height, k)]).length = j + 1) := Lib.hid (by have := HS.out; simp; omega)
          clear t9 st9 q8 b8 S0 CP2
          go_wp2_with fail
          go_roundw
          case rel => exact ⟨j + 1, a', cap', L ++ [(A.height, k)], _, R4, by go_num, by simp, by omega, HL9, s9, ap9, fu9, by simpa [places] using q9, F4, b9⟩
          case measure => simp [intOf]; omega
    · have hL30 : L.length ≤ 30 := by have := HL.out; omega
      have hL30' := Lib.hid hL30
      have H0 := Lib.hid (And.intro ap fu)
      have hend : (¬ j < len0) ∨ (j < len0 ∧ 6000 < A.height + cls (z0.getD j 0)) := by omega
      clear hlt HL
      rcases hend with hend | hend
      all_goals first
        | (have hA : ¬ j < len0 := hend
           clear ap fu hend
           go_wp2_with fail)
        | (have hlt : j < len0 := hend.1
           have hfull := hend.2
           obtain ⟨g, off, rfl, hg, hcell, hwf⟩ := IsRow.at W0.out b hlt
           have hz := bounds_u8 hwf
           generalize z0.getD j 0 = z at *
           have TK := Lib.hid (take_full s z (by omega) (by omega) (ap.rooms _) (by rw [ap.n]; exact hfull))
           clear hwf hfull ap fu hend
           go_wp2_with fail
           refine TK.out.mono ?_
           rintro e w4 ⟨rfl, nd, rfl⟩
           replace s := s.drewN nd
           replace q : Row w.heap.size (wr.drewN nd) p R a cap (places L) := q.step (Step.drewN wr p R nd)
           replace b := b.trans ((Touch.drewN (fun _ => False) wr nd).toBelow b.size (fun _ h => h.elim))
           clear TK hcell hz hg
           go_wp2_with fail)
      all_goals
        go_loopw [15] (fun i wr => ∃ (k : Nat), i = .int .i64 k ∧ k ≤ L.length ∧ ArAt wr p A R ∧ Row w.heap.size wr p R a cap (places L) ∧ Below w.heap.size w wr) (fun i _ => L.length - (intOf i).toNat)
        case atStart => exact ⟨0, rfl, Nat.zero_le _, s, q, b⟩
        case round =>
          clear s q b
          obtain ⟨k, rfl, hk, s, q, b⟩ := hrel
          by_cases hlt : k < L.length
          · obtain ⟨g2, rfl, hcell2⟩ := q.at (i := k) (by rw [places_length]; exact hlt)
            rw [places_get L k hlt] at hcell2
            have hmem : L[k] ∈ L := List.getElem_mem _
            have hget : L[k]? = some L[k] := List.getElem?_eq_getElem hlt
            have hfu := H0.out.2 k L[k] hget
            have hty := H0.out.1.taken _ hmem
            have htop := H0.out.1.top _ hmem
            have hcl := (H0.out.1.cl _ hmem).bnd
            have hn := H0.out.1.n
            have hh := s.hh
            generalize hy : L[k] = y at *
            obtain ⟨x, c⟩ := y
            have HYK := Lib.hid hy
            clear hy
            simp only at hfu hty htop hcl hcell2
            have RM := room_any s (x : Int)
            rw [hty] at RM
            simp only [Option.getD_some, Option.isSome_some] at RM
            have RM2 := Lib.hid RM
            have BY := Lib.hid (bytes_ok s x c (by omega) (by omega) _ hfu)
            have ev : IntKind.u8.wrap ((k : Int) + 1) = (k : Int) + 1 := IntWalk.u8_in _ (by omega)
            have ew : IntKind.i64.wrap ((x : Int) + (c : Int)) = (x : Int) + (c : Int) := IntWalk.i64_in _ (by omega)
            have hplen := places_length L
            have S0 := Lib.hid (And.intro s q)
            clear RM hfu hty hget hmem s q
            go_wp2_with fail
            refine RM2.out.mono ?_
            rintro e w4 ⟨rfl, rfl⟩
            go_wp2_with fail
            refine BY.out.mono ?_
            rintro e w5 ⟨g5, cap5, rfl, ho5, t5⟩
            have s5 := S0.out.1.kept t5 (fun _ _ h => h)
            have q5 := S0.out.2.step (Step.of R (t5.mono (fun _ _ h => h.elim)))
            have b5 := b.trans (t5.toBelow b.size (fun _ h => h.elim))
            obtain ⟨g6, he6, hcell6⟩ := q5.at (i := k) (by rw [places_length]; exact hlt)
            cases he6
            rw [places_get L k hlt, HYK.out] at hcell6
            simp only at hcell6
            have hc5 := fun i (hi : i < c) => own_cell5 ho5 i hi
            have hrep : ∀ i, i < c → (List.replicate c (((k + 1 : Nat) : Int))).getD i 0 = (k : Int) + 1 := fun i hi => by
              rw [List.getD_eq_getElem?_getD, List.getElem?_replicate, if_pos hi]; simp
            have hc6 : ∀ i, i < c → w5.cell? ⟨g5, i, Option.none⟩ = some (.int .u8 ((k : Int) + 1)) := fun i hi => by rw [hc5 i hi, hrep i hi]
            have HC6 := Lib.hid hc6
            have HV := Lib.hid (fun n => (height_any (s5.drewN n)).mono fun e w' (h : e = _ ∧ _ = w') => And.intro h.1 h.2.symm)
            have nle : ¬ ((A.height : Int) < (x : Int) + (c : Int)) := by omega
            have S5 := Lib.hid (And.intro s5 (And.intro q5 b5))
            clear hc5 hrep hc6 ho5 t5 s5 q5 b5 b S0 BY RM2
            go_wp2_with fail
            go_quiet ((go_at_call 19; exact Calls.quiet_of_same (HV.out _)))
            go_wp2_with fail
            go_loop [20] (fun i => ∃ n : Nat, i = .int .i64 n ∧ n ≤ c) (fun i => c - (intOf i).toNat)
            case atStart => exact ⟨0, rfl, Nat.zero_le _⟩
            case round =>
              obtain ⟨n, rfl, hn⟩ := hrel
              by_cases hnc : n < c
              · have hc6 := HC6.out n hnc
                go_wp2_with fail
                exact ⟨⟨n + 1, by go_num, by omega⟩, by simp [intOf]; omega⟩
              · have hnc' : n = c := by omega
                have s6 := S5.out.1.drewN nq
                have q6 := S5.out.2.1.step (Step.drewN w5 p R nq)
                have b6 := S5.out.2.2.trans ((Touch.drewN (fun _ => False) w5 nq).toBelow S5.out.2.2.size (fun _ h => h.elim))
                clear S5 HC6 HV
                go_wp2_with fail
                go_roundw
                case rel => exact ⟨k + 1, by go_num, by omega, s6, q6, b6⟩
                case measure => simp [intOf]; omega
          · obtain rfl : k = L.length := by omega
            clear hlt hk
            go_wp2_with fail
            have AP := H0.out.1
            clear H0
            go_loopw [21] (fun i wr => ∃ (k : Nat) (A : Ar) (R : Rp), i = .int .i64 k ∧ k ≤ len1 ∧ ArAt wr p A R ∧ Apt A L ∧ Row w.heap.size wr p R a cap (places L) ∧ From w.heap.size p R ∧ Below w.heap.size w wr) (fun i _ => len1 - (intOf i).toNat)
            case atStart => exact ⟨0, A, R, rfl, Nat.zero_le _, s, AP, q, F, b⟩
            case round =>
              clear s q b F AP
              obtain ⟨k, A, R, rfl, hk, s, ap, q, F, b⟩ := hrel
              by_cases hlt : k < len1 ∧ 0 < L.length
              · obtain ⟨hk1, hL0⟩ := hlt
                obtain ⟨g, off, rfl, hg, hcell, hwf⟩ := IsRow.at W1.out b hk1
                have hz := bounds_u8 hwf
                obtain ⟨z, hze⟩ := Int.eq_ofNat_of_zero_le hz.1
                rw [hze] at hcell hz
                have hm : z % L.length < L.length := Nat.mod_lt _ hL0
                obtain ⟨g2, rfl, hcell2⟩ := q.at (i := z % L.length) (by rw [places_length]; exact hm)
                have hmem : L[z % L.length] ∈ L := List.getElem_mem _
                rw [places_get L _ hm] at hcell2
                generalize hy : L[z % L.length] = y at *
                obtain ⟨x, c⟩ := y
                have HYK := Lib.hid hy
                clear hy
                simp only at hcell2
                have hty := ap.taken _ hmem
                have htop := ap.top _ hmem
                have hclc := ap.cl _ hmem
                have hcl := hclc.bnd
                have hn := ap.n
                have hh := s.hh
                have hl0' := ap.live0
                have hl1' := ap.live1
                have hbl := s.hbl
                simp only at hty htop hcl
                have RM := room_any s (x : Int)
                rw [hty] at RM
                simp only [Option.getD_some, Option.isSome_some] at RM
                have RM2 := Lib.hid RM
                have GV := Lib.hid (give_ok s (x : Int) (c : Int) hty (by rw [ap.rooms]; simp) (by omega) (by omega))
                have hplen := places_length L
                have S0 := Lib.hid (And.intro ap (And.intro hmem (And.intro hclc hbl)))
                clear RM hwf hze s ap hmem hty hbl
                go_wp2_with fail
                refine RM2.out.mono ?_
                rintro e w4 ⟨rfl, rfl⟩
                go_wp2_with fail
                refine GV.out.mono ?_
                rintro e w5 ⟨R5, rfl, s5, st5⟩
                have F5 := F.step st5 b.size
                have q5 := q.step st5
                have b5 := b.trans (st5.below F b.size)
                have TK := take_again s5 (c : Int) (by omega) (by omega) x [] (by
                  rw [cls_idem S0.out.2.2.1]
                  show setAt A.rooms (c : Int) (A.rooms c ++ [(x : Int)]) (c : Int) = [] ++ [(x : Int)]
                  rw [setAt_same, S0.out.1.rooms]) (by show _ ≤ A.live - (c : Int); omega) (by show A.live - (c : Int) ≤ _; omega)
                rw [cls_idem S0.out.2.2.1] at TK
                have TK2 := Lib.hid TK
                have ap6 := S0.out.1.again S0.out.2.1 (over A.b x (zeros c))
                clear TK s5 st5 q b F GV RM2
                go_wp2_with fail
                refine TK2.out.mono ?_
                rintro e w6 ⟨R6, rfl, s6, st6⟩
                have F6 := F5.step st6 b5.size
                have q6 := q5.step st6
                have b6 := b5.trans (st6.below F5 b5.size)
                have BY := Lib.hid (bytes_ok s6 x c (by show x + c ≤ A.n; omega) (by omega) (zeros c) (by
                  have := over_seg_same (b := A.b) (l := zeros c) (x := x) (by rw [S0.out.2.2.2]; simp [zeros]; omega)
                  rw [show (zeros c).length = c by simp [zeros]] at this
                  exact this))
                have S6 := Lib.hid (And.intro s6 (And.intro q6 (And.intro F6 (And.intro b6 ap6))))
                clear s6 st6 q5 b5 F5 q6 b6 F6 ap6 TK2
                go_wp2_with fail
                refine BY.out.mono ?_
                rintro e w7 ⟨g7, cap7, rfl, ho7, t7⟩
                have s7 := S6.out.1.kept t7 (fun _ _ h => h)
                have q7 := S6.out.2.1.step (Step.of R6 (t7.mono (fun _ _ h => h.elim)))
                have b7 := S6.out.2.2.2.1.trans (t7.toBelow S6.out.2.2.2.1.size (fun _ h => h.elim))
                obtain ⟨g8, he8, hcell8⟩ := q7.at (i := z % L.length) (by rw [places_length]; exact hm)
                cases he8
                rw [places_get L _ hm, HYK.out] at hcell8
                simp only at hcell8
                have hc6 : ∀ i, i < c → w7.cell? ⟨g7, i, Option.none⟩ = some (.int .u8 0) := fun i hi => by
                  rw [own_cell5 ho7 i hi]
                  rw [List.getD_eq_getElem?_getD, zeros, List.getElem?_replicate, if_pos hi]; rfl
                have HC6 := Lib.hid hc6
                have S7 := Lib.hid (And.intro s7 (And.intro q7 b7))
                clear hc6 ho7 t7 s7 q7 b7 BY hcell hcell2
                go_wp2_with fail
                go_loop [29] (fun i => ∃ n : Nat, i = .int .i64 n ∧ n ≤ c) (fun i => c - (intOf i).toNat)
                case atStart => exact ⟨0, rfl, Nat.zero_le _⟩
                case round =>
                  obtain ⟨n, rfl, hn⟩ := hrel
                  by_cases hnc : n < c
                  · have hc6 := HC6.out n hnc
                    go_wp2_with fail
                    exact ⟨⟨n + 1, by go_num, by omega⟩, by simp [intOf]; omega⟩
                  · have hnc' : n = c := by omega
                    clear HC6
                    go_wp2_with fail
                    go_roundw
                    case rel => exact ⟨k + 1, _, R6, by go_num, by omega, S7.out.1, S6.out.2.2.2.2, S7.out.2.1, S6.out.2.2.1, S7.out.2.2⟩
                    case measure => simp [intOf]; omega
              · have hcase : ¬ k < len1 ∨ (k < len1 ∧ L.length = 0) := by omega
                clear hlt
                rcases hcase with hcase | ⟨hcase, hcase2⟩
                all_goals
                  go_wp2_with fail
                  go_ret
                  exact ⟨rfl, b⟩
end Go.Proofs.Ytmjnoboeffajbaa
