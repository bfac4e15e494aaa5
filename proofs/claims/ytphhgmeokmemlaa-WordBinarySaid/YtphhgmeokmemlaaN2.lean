/- The document's other bits, difference, other sign, whether none is 1, bit by bit. -/
import Derived.Test.YtphhgmeokmemlaaN1
import Derived.Deep.RegionWith
namespace Go.Proofs.Ytphhgmeokmemlaa
open Go.RowKit Go.Maps
set_option linter.unusedSimpArgs false
set_option linter.unusedVariables false

variable {w w' wr : World}

def notL (a : List Bool) : List Bool := a.map (!·)
theorem notL_length (a : List Bool) : (notL a).length = a.length := by simp [notL]
theorem notL_take_succ (a : List Bool) (i : Nat) (h : i < a.length) : notL (a.take (i + 1)) = notL (a.take i) ++ [!(a.getD i false)] := by
  rw [take_next a i h]; simp [notL]
theorem wd_not : ∀ a : List Bool, wd (notL a) + wd a + 1 = 2 ^ a.length
  | [] => rfl
  | b :: r => by
    have := wd_not r
    simp only [notL, List.map_cons, wd, List.length_cons, Nat.pow_succ] at this ⊢
    cases b <;> simp <;> omega

set_option maxRecDepth 100000 in
set_option maxHeartbeats 1000000 in
theorem not_ok (a : List Bool) (n : Nat) (ha : a.length = n) (h0 : 0 < n) (hn : n ≤ 100) {v : Value} {B : Nat} (hv : Bits w v a B) :
    Calls Try.prog 35 #[v] w (BPost (notL a) w) := by
  obtain ⟨g, cap, cur, rfl, hB, hg, hc⟩ := hv
  have CA := Lib.hid (fun (w' : World) (t : Touch (fun _ => False) w w') i hi => bits_cell (t.heap (fun h => h) hg) hc i hi)
  have HL := Lib.hid ha
  rw [ha] at CA ⊢
  clear hg hc hB ha
  go_enter Try.func35, Try.ntmps35
  go_wp2_with fail
  go_loopw [3, 4] (fun v j wr => ∃ (i : Nat) (x : Option Addr) (cap : Nat), v = .slice x i cap ∧ j = .int .i64 i ∧ i ≤ n ∧ Hid (Bld w wr x i cap (notL (a.take i)))) (fun _ j _ => n - (intOf j).toNat)
  case atStart => exact ⟨0, Option.none, 0, rfl, rfl, Nat.zero_le _, Bld.nil w⟩
  case round =>
    obtain ⟨i, x, cap3, rfl, rfl, hi, HB⟩ := hrel
    by_cases hlt : i < n
    · have ca := CA.out wr HB.out.t i hlt
      obtain ⟨x', cap', w2, hap, b2⟩ := HB.out.app (by omega) (!(a.getD i false))
      rw [← notL_take_succ a i (by rw [HL.out]; exact hlt)] at b2
      have B2 := Lib.hid b2
      have HAP0 := Lib.hid hap
      clear hap b2 HB
      generalize a.getD i false = p at *
      cases p
      all_goals
        have HAP := HAP0
        simp only [Bool.not_true, Bool.not_false] at HAP
        go_wp2_with (at_builtin; refine wpList_append_run rfl _ _ 40 40 rfl rfl rfl HAP.out ?_)
        go_roundw
        case rel => exact ⟨i + 1, x', cap', rfl, by go_num, by omega, B2⟩
        case measure => simp [intOf]; omega
    · obtain rfl : i = n := by omega
      have FIN : BPost (notL a) w (.returned (.slice x i cap3)) wr := by
        have h1 := HB.out
        rw [List.take_of_length_le (by rw [HL.out]; exact Nat.le_refl _)] at h1
        exact ⟨_, rfl, h1.done (by rw [notL_length]; exact HL.out) h0, h1.t⟩
      have FI := Lib.hid FIN
      clear FIN HB
      go_wp2_with fail
      go_ret
      exact FI.out

/-! ### the difference, the other sign -/
def minusL (a b : List Bool) (n : Nat) : List Bool := addL a (notL b) true n
theorem minusL_length (a b : List Bool) (n : Nat) : (minusL a b n).length = n := addL_length _ _ _ _
theorem minus_arith (x y z m : Nat) (h : z + y + 1 = m) : x + z + 1 = x + (m - y) := by omega
theorem neg_arith (y z m : Nat) (h : z + y + 1 = m) : z + 0 + 1 = m - y := by omega
theorem wd_minus (a b : List Bool) (n : Nat) (ha : a.length = n) (hb : b.length = n) : wd (minusL a b n) = (wd a + (2 ^ n - wd b)) % 2 ^ n := by
  have h := wd_not b
  rw [hb] at h
  have e1 : b1 true = 1 := rfl
  have e := minus_arith (wd a) _ _ _ h
  rw [← e1] at e
  rw [minusL, wd_add a (notL b) true n ha (by rw [notL_length]; exact hb), e]

theorem minus_okC (a b : List Bool) (n : Nat) (ha : a.length = n) (hb : b.length = n) (h0 : 0 < n) (hn : n ≤ 100) {v u : Value} {B C : Nat} (hv : Bits w v a B) (hu : Bits w u b C) :
    Calls Try.prog 23 #[v, u] w (BPostC (minusL a b n) w) := by
  have NT := Lib.hid (not_ok b n hb h0 hn hu)
  have AD := Lib.hid (fun (w2 : World) (x : Value) (t : Touch (fun _ => False) w w2) (bx : Bits w2 x (notL b) w.heap.size) => add_okC a (notL b) true n ha (by rw [notL_length]; exact hb) h0 hn (hv.fresh t) bx)
  have FN := Lib.hid (show ∀ y m c w2 w3, Touch (fun _ => False) w w2 → m ≤ c → Bits w3 (.slice y m c) (addL a (notL b) true n) w2.heap.size → Touch (fun _ => False) w2 w3 → BPostC (minusL a b n) w (.returned (.slice y m c)) w3 from fun y m c w2 w3 t hm b3 t3 => ⟨y, m, c, rfl, hm, b3.low t.size, t.trans t3⟩)
  generalize minusL a b n = r at *
  generalize addL a (notL b) true n = s at *
  clear hv hu
  go_enter Try.func23, Try.ntmps23
  go_wp2_with fail
  refine NT.out.mono ?_
  rintro e w2 ⟨x, rfl, bx, t⟩
  go_wp2_with fail
  refine (AD.out w2 x t bx).mono ?_
  rintro e w3 ⟨y, m, c, rfl, hm, b3, t3⟩
  have FIN := Lib.hid (FN.out y m c w2 w3 t hm b3 t3)
  clear b3 t3 AD bx t FN NT
  go_wp2_with fail
  go_ret
  exact FIN.out

theorem minus_ok (a b : List Bool) (n : Nat) (ha : a.length = n) (hb : b.length = n) (h0 : 0 < n) (hn : n ≤ 100) {v u : Value} {B C : Nat} (hv : Bits w v a B) (hu : Bits w u b C) :
    Calls Try.prog 23 #[v, u] w (BPost (minusL a b n) w) := (minus_okC a b n ha hb h0 hn hv hu).mono fun _ _ h => h.b

/-! ### is none 1? -/
theorem wd_zero_iff : ∀ a : List Bool, wd a = 0 ↔ ∀ i, i < a.length → a.getD i false = false
  | [] => by simp [wd]
  | b :: r => by
    have ih := wd_zero_iff r
    simp only [wd, List.length_cons]
    constructor
    · intro h i hi
      match i with
      | 0 => cases b <;> simp at h ⊢
      | i + 1 =>
        have : wd r = 0 := by omega
        simpa using ih.1 this i (by omega)
    · intro h
      have h0 := h 0 (by omega)
      have h1 : wd r = 0 := ih.2 (fun i hi => by simpa using h (i + 1) (by omega))
      simp at h0
      simp [h0, h1]

set_option maxHeartbeats 1000000 in
theorem zero_ok (a : List Bool) (n : Nat) (ha : a.length = n) (hn : n ≤ 100) {v : Value} {B : Nat} (hv : Bits w v a B) : Calls Try.prog 25 #[v] w (Ret w (.bool (decide (wd a = 0)))) := by
  obtain ⟨g, cap, cur, rfl, hB, hg, hc⟩ := hv
  have CELL := Lib.hid (bits_cell hg hc)
  have HZ := Lib.hid (wd_zero_iff a)
  rw [ha] at CELL HZ ⊢
  generalize wd a = z at *
  clear hg hc hB ha
  go_enter Try.func25, Try.ntmps25
  go_wp2_with fail
  go_loopw [3] (fun j wr => ∃ k : Nat, j = .int .i64 k ∧ k ≤ n ∧ w = wr ∧ Hid (∀ i, i < k → a.getD i false = false)) (fun j _ => n - (intOf j).toNat)
  case atStart => exact ⟨0, rfl, Nat.zero_le _, rfl, Lib.hid (fun i hi => by omega)⟩
  case round =>
    obtain ⟨k, rfl, hk, rfl, HA⟩ := hrel
    by_cases hlt : k < n
    · have hcell := CELL.out k hlt
      cases hb : a.getD k false with
      | true =>
        rw [hb] at hcell
        have hz : ¬ z = 0 := fun e => by have := HZ.out.1 e k hlt; rw [hb] at this; cases this
        have FI := Lib.hid (show decide (z = 0) = false by simpa using hz)
        clear hz hb HA
        go_wp2_with fail
        go_ret
        exact ⟨by rw [FI.out]; rfl, rfl⟩
      | false =>
        rw [hb] at hcell
        have HA2 := Lib.hid (show ∀ i, i < k + 1 → a.getD i false = false from fun i hi => by
          by_cases e : i = k
          · rw [e]; exact hb
          · exact HA.out i (by omega))
        clear hb HA
        go_wp2_with fail
        refine ⟨⟨k + 1, by go_num, by omega, trivial, HA2⟩, by simp [intOf]; omega⟩
    · obtain rfl : k = n := by omega
      have FI := Lib.hid (show decide (z = 0) = true by simpa using HZ.out.2 HA.out)
      clear HA HZ
      go_wp2_with fail
      go_ret
      exact ⟨by rw [FI.out]; rfl, rfl⟩

/-! ### a list of truths made -/
theorem madeBools (n : Nat) : madeCells #[.bool false] n = Array.replicate n (.bool false) := by
  apply Array.ext
  · simp [madeCells]
  · intro i h1 h2
    simp [madeCells, Nat.mod_one]
theorem run_make40 (n : Nat) (h : n ≤ 140737488355328) (w : World) : (Instr.makeSlice 40 (.int .i64 n) (.int .i64 n)).run Try.prog w = .ok (.slice (some ⟨w.heap.size, 0, Option.none⟩) n n) (w.alloc (.cells (Array.replicate n (.bool false)) 4)) := by
  obtain ⟨i, hi, hz, hs, hb⟩ := info_parts info4
  have := run_make (P := Try.prog) w 40 4 i (.bool false) Try.underlying40 hi hz .i64 .i64 n n (by omega) (by omega) (by rw [hb]; omega) (by omega)
  rw [this, hs]
  simp [Value.cells, madeBools]
theorem Bits.made (n : Nat) (w : World) : Bits (w.alloc (.cells (Array.replicate n (.bool false)) 4)) (.slice (some ⟨w.heap.size, 0, Option.none⟩) n n) (List.replicate n false) w.heap.size := by
  refine ⟨w.heap.size, n, _, by simp, Nat.le_refl _, (MapKept.heap_alloc w _).1, ?_⟩
  rw [List.take_of_length_le (by simp)]
  simp
theorem wd_none : ∀ n, wd (List.replicate n false) = 0
  | 0 => rfl
  | n + 1 => by rw [List.replicate_succ, wd, wd_none n]; rfl

def negL (a : List Bool) (n : Nat) : List Bool := addL (notL a) (List.replicate n false) true n
theorem negL_length (a : List Bool) (n : Nat) : (negL a n).length = n := addL_length _ _ _ _
theorem wd_neg (a : List Bool) (n : Nat) (ha : a.length = n) : wd (negL a n) = (2 ^ n - wd a) % 2 ^ n := by
  have h := wd_not a
  rw [ha] at h
  have e1 : b1 true = 1 := rfl
  have e := neg_arith _ _ _ h
  rw [← e1, ← wd_none n] at e
  rw [negL, wd_add (notL a) _ true n (by rw [notL_length]; exact ha) (by simp), e]

set_option maxRecDepth 100000 in
set_option maxHeartbeats 2000000 in
theorem neg_ok (a : List Bool) (n : Nat) (ha : a.length = n) (h0 : 0 < n) (hn : n ≤ 100) {v : Value} {B : Nat} (hv : Bits w v a B) :
    Calls Try.prog 26 #[v] w (BPost (negL a n) w) := by
  have hv0 := hv
  obtain ⟨g, cap, cur, rfl, _, _, _⟩ := hv0
  have NT := Lib.hid (fun (w1 : World) (t : Touch (fun _ => False) w w1) => not_ok a n ha h0 hn (hv.fresh t))
  have hmk := fun w => run_make40 n (by omega) w
  have NL := Lib.hid (show (notL a).length = n by rw [notL_length]; exact ha)
  have td : Touch (fun _ => False) w w.drew := Touch.drew _ _
  have T0 := Lib.hid td
  rw [ha] at NT ⊢
  clear hv td ha
  go_enter Try.func26, Try.ntmps26
  go_wp2_with fail
  go_region_with (first
    | (go_at_call 35; refine (NT.out _ (by first | exact Touch.drew _ _ | exact (Touch.alloc _ _ _).trans (Touch.drew _ _))).mono ?_; rintro e w2 ⟨x, rfl, bx, t2⟩)
    | (go_at_call 22; refine (add_ok (notL a) (List.replicate n false) true n NL.out (by simp) h0 hn (B := 0) (C := 0) (by first | exact bx.low (Nat.zero_le _) | exact (bx.fresh (Touch.alloc _ _ _)).low (Nat.zero_le _)) (by first | exact (Bits.made n _).low (Nat.zero_le _) | exact ((Bits.made n w).fresh ((Touch.drew _ _).trans t2)).low (Nat.zero_le _))).mono ?_; rintro e w3 ⟨y, rfl, b3, t3⟩))
  all_goals
    have T3 : Touch (fun _ => False) w w3 := by
      first
        | exact ((T0.out.trans t2).trans (Touch.alloc _ _ _)).trans t3
        | exact ((((Touch.alloc _ w _).trans (Touch.drew _ _)).trans t2).trans t3)
    have L3 := T3.size
    have FIN : BPost (negL a n) w (.returned y) w3 := ⟨y, rfl, b3.low (by
      first
        | exact ((T0.out.trans t2).trans (Touch.alloc _ _ _)).size
        | exact (((Touch.alloc (fun _ => False) w _).trans (Touch.drew _ _)).trans t2).size), T3⟩
    have FI := Lib.hid FIN
    clear FIN T3 b3 t3 bx t2
    go_wp2_with fail
    go_ret
    exact FI.out
end Go.Proofs.Ytphhgmeokmemlaa
