/- The document's ops bit by bit, its shifts, its product. -/
import Derived.Test.YtphhgmeokmemlaaN2
import Derived.Deep.RegionLaw
namespace Go.Proofs.Ytphhgmeokmemlaa
open Go.RowKit Go.Maps
set_option linter.unusedSimpArgs false
set_option linter.unusedVariables false

variable {w w' wr : World}

theorem ownsRow_touch {w w' : World} {F : Nat → Prop} (t : Touch F w w') {base : Nat} {e size n : Nat} {v : Value} {xs : List Value} (h : w.ownsRow base e size v n xs) (hF : ∀ k, v.ownBlock = some k → ¬ F k) : w'.ownsRow base e size v n xs := by
  refine ⟨h.1, ?_⟩
  rcases h.2 with hn | ⟨g, cap, cur, rfl, hb, hg, r⟩
  · exact .inl hn
  · exact .inr ⟨g, cap, cur, rfl, hb, t.heap (hF g rfl) hg, r⟩
theorem Bld.drew {a : Option Addr} {i cap : Nat} {l : List Bool} (h : Bld w wr a i cap l) : Bld w wr.drew a i cap l :=
  ⟨ownsRow_touch (Touch.drew (fun _ => False) wr) h.own (fun _ _ h => h), h.off, h.t.trans (Touch.drew _ wr)⟩

/-! ### bits of a list's word -/
theorem wd_bit : ∀ (l : List Bool) (i : Nat), (wd l).testBit i = l.getD i false
  | [], i => by simp [wd]
  | b :: r, 0 => by
    simp only [wd, Nat.testBit_zero, List.getD_cons_zero]
    cases b <;> simp <;> omega
  | b :: r, i + 1 => by
    have ih := wd_bit r i
    rw [Nat.testBit_succ, List.getD_cons_succ, ← ih]
    congr 1
    simp only [wd]
    split <;> omega
theorem getD_out (l : List Bool) (i : Nat) (h : l.length ≤ i) : l.getD i false = false := by
  rw [List.getD_eq_getElem?_getD, List.getElem?_eq_none h]; rfl
def mixL (f : Bool → Bool → Bool) (a b : List Bool) (n : Nat) : List Bool := (List.range n).map fun i => f (a.getD i false) (b.getD i false)
theorem mixL_length (f : Bool → Bool → Bool) (a b : List Bool) (n : Nat) : (mixL f a b n).length = n := by simp [mixL]
theorem mixL_succ (f : Bool → Bool → Bool) (a b : List Bool) (n : Nat) : mixL f a b (n + 1) = mixL f a b n ++ [f (a.getD n false) (b.getD n false)] := by simp [mixL, List.range_succ]
theorem mixL_get (f : Bool → Bool → Bool) (a b : List Bool) (n i : Nat) (h : i < n) : (mixL f a b n).getD i false = f (a.getD i false) (b.getD i false) := by
  rw [List.getD_eq_getElem?_getD, mixL, List.getElem?_map, List.getElem?_range h]; rfl
theorem wd_mix (f : Bool → Bool → Bool) (g : Nat → Nat → Nat) (hg : ∀ x y i, (g x y).testBit i = f (x.testBit i) (y.testBit i)) (hf : f false false = false) (a b : List Bool) (n : Nat) (ha : a.length = n) (hb : b.length = n) : wd (mixL f a b n) = g (wd a) (wd b) := by
  apply Nat.eq_of_testBit_eq
  intro i
  rw [hg, wd_bit, wd_bit, wd_bit]
  by_cases h : i < n
  · exact mixL_get f a b n i h
  · rw [getD_out _ i (by rw [mixL_length]; omega), getD_out a i (by omega), getD_out b i (by omega), hf]

set_option maxRecDepth 100000 in
set_option maxHeartbeats 2000000 in
theorem mix_and (a b : List Bool) (n : Nat) (ha : a.length = n) (hb : b.length = n) (h0 : 0 < n) (hn : n ≤ 100) {v u : Value} {B C : Nat} (hv : Bits w v a B) (hu : Bits w u b C) :
    Calls Try.prog 28 #[v, u, .int .i64 0] w (BPost (mixL (· && ·) a b n) w) := by
  obtain ⟨g, cap, cur, rfl, hB, hg, hc⟩ := hv
  obtain ⟨g2, cap2, cur2, rfl, hB2, hg2, hc2⟩ := hu
  have CA := Lib.hid (fun (w' : World) (t : Touch (fun _ => False) w w') i hi => bits_cell (t.heap (fun h => h) hg) hc i hi)
  have CB := Lib.hid (fun (w' : World) (t : Touch (fun _ => False) w w') i hi => bits_cell (t.heap (fun h => h) hg2) hc2 i hi)
  rw [ha] at CA ⊢
  rw [hb] at CB ⊢
  clear hg hc hB hg2 hc2 hB2 ha hb
  go_enter Try.func28, Try.ntmps28
  go_wp2_with fail
  go_loopw [7, 8] (fun v j wr => ∃ (i : Nat) (x : Option Addr) (cap : Nat), v = .slice x i cap ∧ j = .int .i64 i ∧ i ≤ n ∧ Hid (Bld w wr x i cap (mixL (· && ·) a b i))) (fun _ j _ => n - (intOf j).toNat)
  case atStart => exact ⟨0, Option.none, 0, rfl, rfl, Nat.zero_le _, Bld.nil w⟩
  case round =>
    obtain ⟨i, x, cap3, rfl, rfl, hi, HB⟩ := hrel
    by_cases hlt : i < n
    · have ca := CA.out wr HB.out.t i hlt
      have cb := CB.out wr HB.out.t i hlt
      obtain ⟨x', cap', w2, hap, b2⟩ := HB.out.app (by omega) ((· && ·) (a.getD i false) (b.getD i false))
      rw [← mixL_succ] at b2
      have B2 := Lib.hid b2
      have HAP0 := Lib.hid hap
      clear hap b2 HB
      generalize a.getD i false = p at *
      generalize b.getD i false = q at *
      cases p <;> cases q
      all_goals
        have HAP := HAP0
        simp only [Bool.and_true, Bool.and_false, Bool.or_true, Bool.or_false, Bool.xor_true, Bool.xor_false, Bool.not_true, Bool.not_false, Bool.true_and, Bool.false_and, Bool.true_or, Bool.false_or] at HAP
        go_wp2_with (at_builtin; refine wpList_append_run rfl _ _ 40 40 rfl rfl rfl HAP.out ?_)
        all_goals
          go_roundw
          case rel => exact ⟨i + 1, x', cap', rfl, by go_num, by omega, B2⟩
          case measure => simp [intOf]; omega
    · obtain rfl : i = n := by omega
      have FIN : BPost (mixL (· && ·) a b i) w (.returned (.slice x i cap3)) wr := ⟨_, rfl, HB.out.done (mixL_length _ _ _ _) h0, HB.out.t⟩
      have FI := Lib.hid FIN
      clear FIN HB
      go_wp2_with fail
      go_ret
      exact FI.out

set_option maxRecDepth 100000 in
set_option maxHeartbeats 2000000 in
theorem mix_or (a b : List Bool) (n : Nat) (ha : a.length = n) (hb : b.length = n) (h0 : 0 < n) (hn : n ≤ 100) {v u : Value} {B C : Nat} (hv : Bits w v a B) (hu : Bits w u b C) :
    Calls Try.prog 28 #[v, u, .int .i64 1] w (BPost (mixL (· || ·) a b n) w) := by
  obtain ⟨g, cap, cur, rfl, hB, hg, hc⟩ := hv
  obtain ⟨g2, cap2, cur2, rfl, hB2, hg2, hc2⟩ := hu
  have CA := Lib.hid (fun (w' : World) (t : Touch (fun _ => False) w w') i hi => bits_cell (t.heap (fun h => h) hg) hc i hi)
  have CB := Lib.hid (fun (w' : World) (t : Touch (fun _ => False) w w') i hi => bits_cell (t.heap (fun h => h) hg2) hc2 i hi)
  rw [ha] at CA ⊢
  rw [hb] at CB ⊢
  clear hg hc hB hg2 hc2 hB2 ha hb
  go_enter Try.func28, Try.ntmps28
  go_wp2_with fail
  go_loopw [7, 8] (fun v j wr => ∃ (i : Nat) (x : Option Addr) (cap : Nat), v = .slice x i cap ∧ j = .int .i64 i ∧ i ≤ n ∧ Hid (Bld w wr x i cap (mixL (· || ·) a b i))) (fun _ j _ => n - (intOf j).toNat)
  case atStart => exact ⟨0, Option.none, 0, rfl, rfl, Nat.zero_le _, Bld.nil w⟩
  case round =>
    obtain ⟨i, x, cap3, rfl, rfl, hi, HB⟩ := hrel
    by_cases hlt : i < n
    · have ca := CA.out wr HB.out.t i hlt
      have cb := CB.out wr HB.out.t i hlt
      obtain ⟨x', cap', w2, hap, b2⟩ := HB.out.app (by omega) ((· || ·) (a.getD i false) (b.getD i false))
      rw [← mixL_succ] at b2
      have B2 := Lib.hid b2
      have HAP0 := Lib.hid hap
      clear hap b2 HB
      generalize a.getD i false = p at *
      generalize b.getD i false = q at *
      cases p <;> cases q
      all_goals
        have HAP := HAP0
        simp only [Bool.and_true, Bool.and_false, Bool.or_true, Bool.or_false, Bool.xor_true, Bool.xor_false, Bool.not_true, Bool.not_false, Bool.true_and, Bool.false_and, Bool.true_or, Bool.false_or] at HAP
        go_wp2_with (at_builtin; refine wpList_append_run rfl _ _ 40 40 rfl rfl rfl HAP.out ?_)
        all_goals
          go_roundw
          case rel => exact ⟨i + 1, x', cap', rfl, by go_num, by omega, B2⟩
          case measure => simp [intOf]; omega
    · obtain rfl : i = n := by omega
      have FIN : BPost (mixL (· || ·) a b i) w (.returned (.slice x i cap3)) wr := ⟨_, rfl, HB.out.done (mixL_length _ _ _ _) h0, HB.out.t⟩
      have FI := Lib.hid FIN
      clear FIN HB
      go_wp2_with fail
      go_ret
      exact FI.out

set_option maxRecDepth 100000 in
set_option maxHeartbeats 2000000 in
theorem mix_xor (a b : List Bool) (n : Nat) (ha : a.length = n) (hb : b.length = n) (h0 : 0 < n) (hn : n ≤ 100) {v u : Value} {B C : Nat} (hv : Bits w v a B) (hu : Bits w u b C) :
    Calls Try.prog 28 #[v, u, .int .i64 2] w (BPost (mixL xor a b n) w) := by
  obtain ⟨g, cap, cur, rfl, hB, hg, hc⟩ := hv
  obtain ⟨g2, cap2, cur2, rfl, hB2, hg2, hc2⟩ := hu
  have CA := Lib.hid (fun (w' : World) (t : Touch (fun _ => False) w w') i hi => bits_cell (t.heap (fun h => h) hg) hc i hi)
  have CB := Lib.hid (fun (w' : World) (t : Touch (fun _ => False) w w') i hi => bits_cell (t.heap (fun h => h) hg2) hc2 i hi)
  rw [ha] at CA ⊢
  rw [hb] at CB ⊢
  clear hg hc hB hg2 hc2 hB2 ha hb
  go_enter Try.func28, Try.ntmps28
  go_wp2_with fail
  go_loopw [7, 8] (fun v j wr => ∃ (i : Nat) (x : Option Addr) (cap : Nat), v = .slice x i cap ∧ j = .int .i64 i ∧ i ≤ n ∧ Hid (Bld w wr x i cap (mixL xor a b i))) (fun _ j _ => n - (intOf j).toNat)
  case atStart => exact ⟨0, Option.none, 0, rfl, rfl, Nat.zero_le _, Bld.nil w⟩
  case round =>
    obtain ⟨i, x, cap3, rfl, rfl, hi, HB⟩ := hrel
    by_cases hlt : i < n
    · have ca := CA.out wr HB.out.t i hlt
      have cb := CB.out wr HB.out.t i hlt
      obtain ⟨x', cap', w2, hap, b2⟩ := HB.out.drew.app (by omega) (xor (a.getD i false) (b.getD i false))
      rw [← mixL_succ] at b2
      have B2 := Lib.hid b2
      have HAP0 := Lib.hid hap
      clear hap b2 HB
      generalize a.getD i false = p at *
      generalize b.getD i false = q at *
      cases p <;> cases q
      all_goals
        have HAP := HAP0
        simp only [Bool.and_true, Bool.and_false, Bool.or_true, Bool.or_false, Bool.xor_true, Bool.xor_false, Bool.not_true, Bool.not_false, Bool.true_and, Bool.false_and, Bool.true_or, Bool.false_or] at HAP
        go_wp2_with fail
        go_region_law (refine step_append_run rfl _ _ 40 40 rfl rfl rfl HAP.out ?_)
        all_goals go_wp2_with fail
        all_goals
          go_roundw
          case rel => exact ⟨i + 1, x', cap', rfl, by go_num, by omega, B2⟩
          case measure => simp [intOf]; omega
    · obtain rfl : i = n := by omega
      have FIN : BPost (mixL xor a b i) w (.returned (.slice x i cap3)) wr := ⟨_, rfl, HB.out.done (mixL_length _ _ _ _) h0, HB.out.t⟩
      have FI := Lib.hid FIN
      clear FIN HB
      go_wp2_with fail
      go_ret
      exact FI.out

/-! ### shifts -/
set_option maxRecDepth 100000 in
set_option maxHeartbeats 2000000 in
theorem shift_okC (a L : List Bool) (k : Int) (f : Bool) (n : Nat) (ha : a.length = n) (hL : L.length = n) (h0 : 0 < n) (hn : n ≤ 100) (hk : -100 ≤ k ∧ k ≤ 100)
    (hp : ∀ i, i < n → L.getD i false = if 0 ≤ (i : Int) - k ∧ (i : Int) - k < n then a.getD ((i : Int) - k).toNat false else f) {v : Value} {B : Nat} (hv : Bits w v a B) :
    Calls Try.prog 29 #[v, .int .i64 k, .bool f] w (BPostC L w) := by
  obtain ⟨g, cap, cur, rfl, hB, hg, hc⟩ := hv
  have CA := Lib.hid (fun (w' : World) (t : Touch (fun _ => False) w w') i hi => bits_cell (t.heap (fun h => h) hg) hc i hi)
  rw [ha] at CA ⊢
  have HP := Lib.hid (And.intro hL hp)
  obtain ⟨hk1, hk2⟩ := hk
  clear hg hc hB ha hp hL
  go_enter Try.func29, Try.ntmps29
  go_wp2_with fail
  go_loopw [7, 8] (fun v j wr => ∃ (i : Nat) (x : Option Addr) (cap : Nat), v = .slice x i cap ∧ j = .int .i64 i ∧ i ≤ n ∧ Hid (Bld w wr x i cap (L.take i))) (fun _ j _ => n - (intOf j).toNat)
  case atStart => exact ⟨0, Option.none, 0, rfl, rfl, Nat.zero_le _, Bld.nil w⟩
  case round =>
    obtain ⟨i, x, cap3, rfl, rfl, hi, HB⟩ := hrel
    have ew : IntKind.i64.wrap ((i : Int) - k) = (i : Int) - k := IntWalk.i64_in _ (by omega)
    by_cases hlt : i < n
    · have hpi := HP.out.2 i hlt
      obtain ⟨x', cap', w2, hap, b2⟩ := HB.out.app (by omega) (L.getD i false)
      rw [← take_next L i (by rw [HP.out.1]; exact hlt)] at b2
      have B2 := Lib.hid b2
      by_cases hin : 0 ≤ (i : Int) - k ∧ (i : Int) - k < n
      · rw [if_pos hin] at hpi
        rw [hpi] at hap
        have ca := CA.out wr HB.out.t ((i : Int) - k).toNat (by omega)
        have HAP := Lib.hid hap
        have J1 := hin.1
        have J2 := hin.2
        clear hap b2 HB hpi hin
        generalize a.getD ((i : Int) - k).toNat false = p at *
        go_wp2_with (at_builtin; refine wpList_append_run rfl _ _ 40 40 rfl rfl rfl HAP.out ?_)
        go_roundw
        case rel => exact ⟨i + 1, x', cap', rfl, by go_num, by omega, B2⟩
        case measure => simp [intOf]; omega
      · rw [if_neg hin] at hpi
        rw [hpi] at hap
        have HAP := Lib.hid hap
        have hout : (i : Int) - k < 0 ∨ (0 ≤ (i : Int) - k ∧ (n : Int) ≤ (i : Int) - k) := by omega
        clear hap b2 HB hpi hin
        rcases hout with hout | ⟨hout, hout2⟩
        · have k1 : ¬ (0 ≤ (i : Int) - k) := by omega
          have k2 : ¬ (k ≤ (i : Int)) := by omega
          go_wp2_with (at_builtin; refine wpList_append_run rfl _ _ 40 40 rfl rfl rfl HAP.out ?_)
          go_roundw
          case rel => exact ⟨i + 1, x', cap', rfl, by go_num, by omega, B2⟩
          case measure => simp [intOf]; omega
        · have k1 : ¬ ((i : Int) - k < (n : Int)) := by omega
          have k2 : k ≤ (i : Int) := by omega
          go_wp2_with (at_builtin; refine wpList_append_run rfl _ _ 40 40 rfl rfl rfl HAP.out ?_)
          go_roundw
          case rel => exact ⟨i + 1, x', cap', rfl, by go_num, by omega, B2⟩
          case measure => simp [intOf]; omega
    · obtain rfl : i = n := by omega
      have FIN : BPostC L w (.returned (.slice x i cap3)) wr := by
        have h1 := HB.out
        rw [List.take_of_length_le (by rw [HP.out.1]; exact Nat.le_refl _)] at h1
        exact ⟨_, _, _, rfl, h1.cap h0, h1.done HP.out.1 h0, h1.t⟩
      have FI := Lib.hid FIN
      clear FIN HB
      go_wp2_with fail
      go_ret
      exact FI.out
end Go.Proofs.Ytphhgmeokmemlaa
