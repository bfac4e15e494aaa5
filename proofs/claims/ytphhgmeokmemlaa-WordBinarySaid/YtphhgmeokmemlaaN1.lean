/- Lists of bits built bit by bit: the document's sum, its other bits, its difference. -/
import Derived.Test.YtphhgmeokmemlaaL3
namespace Go.Proofs.Ytphhgmeokmemlaa
open Go.RowKit Go.Maps
set_option linter.unusedSimpArgs false
set_option linter.unusedVariables false

variable {w w' wr : World}

/-- A slice of truths that is being built since the world w. -/
structure Bld (w wr : World) (a : Option Addr) (i cap : Nat) (l : List Bool) : Prop where
  own : wr.ownsRow 0 4 1 (.slice a i cap) i (bvals l)
  off : ∀ k, (Value.slice a i cap).ownBlock = some k → w.heap.size ≤ k
  t : Touch (fun _ => False) w wr
theorem Bld.nil (w : World) : Bld w w Option.none 0 0 [] := ⟨⟨by simp, Or.inl ⟨rfl, rfl⟩⟩, fun k hk => by simp [Value.ownBlock] at hk, Touch.refl _ _⟩
theorem Bld.app {a : Option Addr} {i cap : Nat} {l : List Bool} (h : Bld w wr a i cap l) (hi : i ≤ 1000000) (x : Bool) :
    ∃ a' cap' w2, (Builtin.append_ #[40, 40] 40 #[.slice a i cap, .slice (some ⟨wr.heap.size, 0, Option.none⟩) 1 1]).run Try.prog (wr.alloc (.cells #[.bool x] 4)) = .ok (.slice a' (i + 1) cap') w2 ∧ Bld w w2 a' (i + 1) cap' (l ++ [x]) := by
  obtain ⟨a', cap', w2, hap, ho2, t2, hb2⟩ := app_b h.own hi x
  refine ⟨a', cap', w2, hap, ⟨by simpa [bvals] using ho2, fun k hk => (hb2 k hk).elim (h.off k) (fun h' => Nat.le_trans h.t.size h'), h.t.trans' t2 (fun _ _ h => h) (fun k hk hf => by have := h.off k hf; omega)⟩⟩
theorem Bld.done {a : Option Addr} {i cap : Nat} {l : List Bool} (h : Bld w wr a i cap l) (hl : l.length = i) (h0 : 0 < i) : Bits wr (.slice a i cap) l w.heap.size := by
  rcases h.own.2 with ⟨hv, h1⟩ | ⟨g, c, cur, hv, h1, h2, h3, h4, h5, h6⟩
  · omega
  · refine ⟨g, c, cur, by rw [hl]; exact hv, ?_, h2, by rw [hl]; simpa using h6⟩
    have := h.off
    rw [hv] at this
    exact this g rfl

/-- A list of bits comes out, in a block of its own; what was there stays. -/
def BPost (l : List Bool) (w : World) (e : Ending) (w' : World) : Prop := ∃ v, e = .returned v ∧ Bits w' v l w.heap.size ∧ Touch (fun _ => False) w w'

/-- The same, and the slice's length is within its room. -/
def BPostC (l : List Bool) (w : World) (e : Ending) (w' : World) : Prop := ∃ a m c, e = .returned (.slice a m c) ∧ m ≤ c ∧ Bits w' (.slice a m c) l w.heap.size ∧ Touch (fun _ => False) w w'
theorem BPostC.b {l : List Bool} {e : Ending} (h : BPostC l w e w') : BPost l w e w' := by
  obtain ⟨a, m, c, he, _, b, t⟩ := h
  exact ⟨_, he, b, t⟩
theorem Bld.cap {a : Option Addr} {i cap : Nat} {l : List Bool} (h : Bld w wr a i cap l) (h0 : 0 < i) : i ≤ cap := by
  rcases h.own.2 with ⟨hv, h1⟩ | ⟨g, c, cur, hv, h1, h2, h3, h4, h5, h6⟩
  · omega
  · simp only [Value.slice.injEq, true_and] at hv
    omega

theorem Bits.fresh {v : Value} {l : List Bool} {B : Nat} (h : Bits w v l B) (t : Touch (fun _ => False) w w') : Bits w' v l B := h.kept t (fun _ _ h => h)
theorem Bits.low {v : Value} {l : List Bool} {B C : Nat} (h : Bits w v l B) (hC : C ≤ B) : Bits w v l C := by
  obtain ⟨g, cap, cur, hv, hB, r⟩ := h
  exact ⟨g, cap, cur, hv, Nat.le_trans hC hB, r⟩

/-! ### the sum -/
def b1 (b : Bool) : Nat := if b then 1 else 0
def carry (a b : List Bool) (c : Bool) : Nat → Bool
  | 0 => c
  | i + 1 => decide (1 < b1 (a.getD i false) + b1 (b.getD i false) + b1 (carry a b c i))
def sbit (a b : List Bool) (c : Bool) (i : Nat) : Bool := (b1 (a.getD i false) + b1 (b.getD i false) + b1 (carry a b c i)) % 2 == 1
def addL (a b : List Bool) (c : Bool) (n : Nat) : List Bool := (List.range n).map (sbit a b c)
theorem addL_length (a b : List Bool) (c : Bool) (n : Nat) : (addL a b c n).length = n := by simp [addL]
theorem addL_succ (a b : List Bool) (c : Bool) (n : Nat) : addL a b c (n + 1) = addL a b c n ++ [sbit a b c n] := by simp [addL, List.range_succ]

theorem wd_append (l m : List Bool) : wd (l ++ m) = wd l + 2 ^ l.length * wd m := by
  have := wd_take (l ++ m) l.length (by simp)
  rw [List.take_left' rfl, List.drop_left' rfl] at this
  exact this
theorem wd_one (b : Bool) : wd [b] = b1 b := by cases b <;> rfl
theorem take_next (l : List Bool) (i : Nat) (h : i < l.length) : l.take (i + 1) = l.take i ++ [l.getD i false] := by
  rw [List.take_add_one, List.getD_eq_getElem?_getD, List.getElem?_eq_getElem h]; rfl

theorem add_inv (a b : List Bool) (c : Bool) : ∀ i, i ≤ a.length → i ≤ b.length → wd (addL a b c i) + 2 ^ i * b1 (carry a b c i) = wd (a.take i) + wd (b.take i) + b1 c
  | 0, _, _ => by simp [addL, wd, carry]
  | i + 1, ha, hb => by
    have ih := add_inv a b c i (by omega) (by omega)
    rw [addL_succ, wd_append, wd_one, take_next a i (by omega), take_next b i (by omega), wd_append, wd_append, wd_one, wd_one, addL_length, List.length_take, List.length_take, Nat.min_eq_left (by omega), Nat.min_eq_left (by omega)]
    have hs : b1 (sbit a b c i) + 2 * b1 (carry a b c (i + 1)) = b1 (a.getD i false) + b1 (b.getD i false) + b1 (carry a b c i) := by
      unfold sbit
      rw [show carry a b c (i + 1) = decide (1 < b1 (a.getD i false) + b1 (b.getD i false) + b1 (carry a b c i)) from rfl]
      cases a.getD i false <;> cases b.getD i false <;> cases carry a b c i <;> rfl
    have h2 : 2 ^ i * (b1 (sbit a b c i) + 2 * b1 (carry a b c (i + 1))) = 2 ^ i * (b1 (a.getD i false) + b1 (b.getD i false) + b1 (carry a b c i)) := by rw [hs]
    rw [Nat.mul_add, Nat.mul_add, Nat.mul_add] at h2
    rw [Nat.pow_succ, Nat.mul_assoc]
    omega

theorem wd_add (a b : List Bool) (c : Bool) (n : Nat) (ha : a.length = n) (hb : b.length = n) : wd (addL a b c n) = (wd a + wd b + b1 c) % 2 ^ n := by
  have h := add_inv a b c n (by omega) (by omega)
  rw [List.take_of_length_le (by omega), List.take_of_length_le (by omega)] at h
  have hl := wd_lt (addL a b c n)
  rw [addL_length] at hl
  rw [← h, Nat.add_mul_mod_self_left, Nat.mod_eq_of_lt hl]

set_option maxRecDepth 100000 in
set_option maxHeartbeats 1000000 in
theorem add_okC (a b : List Bool) (c : Bool) (n : Nat) (ha : a.length = n) (hb : b.length = n) (h0 : 0 < n) (hn : n ≤ 100) {v u : Value} {B C : Nat} (hv : Bits w v a B) (hu : Bits w u b C) :
    Calls Try.prog 22 #[v, u, .bool c] w (BPostC (addL a b c n) w) := by
  obtain ⟨g, cap, cur, rfl, hB, hg, hc⟩ := hv
  obtain ⟨g2, cap2, cur2, rfl, hB2, hg2, hc2⟩ := hu
  have CA := Lib.hid (fun (w' : World) (t : Touch (fun _ => False) w w') i hi => bits_cell (t.heap (fun h => h) hg) hc i hi)
  have CB := Lib.hid (fun (w' : World) (t : Touch (fun _ => False) w w') i hi => bits_cell (t.heap (fun h => h) hg2) hc2 i hi)
  rw [ha] at CA ⊢
  rw [hb] at CB ⊢
  clear hg hc hB hg2 hc2 hB2 ha hb
  go_enter Try.func22, Try.ntmps22
  go_wp2_with fail
  go_loopw [2, 7, 8] (fun m v j wr => ∃ (i : Nat) (x : Option Addr) (cap : Nat), m = .bool (carry a b c i) ∧ v = .slice x i cap ∧ j = .int .i64 i ∧ i ≤ n ∧ Hid (Bld w wr x i cap (addL a b c i))) (fun _ _ j _ => n - (intOf j).toNat)
  case atStart => exact ⟨0, Option.none, 0, rfl, rfl, rfl, Nat.zero_le _, Bld.nil w⟩
  case round =>
    obtain ⟨i, x, cap3, rfl, rfl, rfl, hi, HB⟩ := hrel
    by_cases hlt : i < n
    · have ca := CA.out wr HB.out.t i hlt
      have cb := CB.out wr HB.out.t i hlt
      obtain ⟨x', cap', w2, hap, b2⟩ := HB.out.app (by omega) (sbit a b c i)
      rw [← addL_succ] at b2
      have B2 := Lib.hid b2
      have hcar : carry a b c (i + 1) = decide (1 < b1 (a.getD i false) + b1 (b.getD i false) + b1 (carry a b c i)) := rfl
      have hs : sbit a b c i = ((b1 (a.getD i false) + b1 (b.getD i false) + b1 (carry a b c i)) % 2 == 1) := rfl
      have HC := Lib.hid hcar
      rw [hs] at hap
      have HAP0 := Lib.hid hap
      clear hap b2 hcar hs HB
      generalize a.getD i false = p at *
      generalize b.getD i false = q at *
      generalize carry a b c i = r at *
      cases p <;> cases q <;> cases r
      all_goals
        have HAP := HAP0
        simp only [b1, if_true, if_false, Bool.false_eq_true] at HAP HC
        go_wp2_with (at_builtin; refine wpList_append_run rfl _ _ 40 40 rfl rfl rfl HAP.out ?_)
        go_roundw
        case rel => exact ⟨i + 1, x', cap', by rw [HC.out]; rfl, rfl, by go_num, by omega, B2⟩
        case measure => simp [intOf]; omega
    · obtain rfl : i = n := by omega
      have FIN : BPostC (addL a b c i) w (.returned (.slice x i cap3)) wr := ⟨_, _, _, rfl, HB.out.cap h0, HB.out.done (addL_length _ _ _ _) h0, HB.out.t⟩
      have FI := Lib.hid FIN
      clear FIN HB
      go_wp2_with fail
      go_ret
      exact FI.out
theorem add_ok (a b : List Bool) (c : Bool) (n : Nat) (ha : a.length = n) (hb : b.length = n) (h0 : 0 < n) (hn : n ≤ 100) {v u : Value} {B C : Nat} (hv : Bits w v a B) (hu : Bits w u b C) :
    Calls Try.prog 22 #[v, u, .bool c] w (BPost (addL a b c n) w) := (add_okC a b c n ha hb h0 hn hv hu).mono fun _ _ h => h.b
end Go.Proofs.Ytphhgmeokmemlaa
