/- The document's shifts of a list, its product: what they come to. -/
import Derived.Test.YtphhgmeokmemlaaN3
namespace Go.Proofs.Ytphhgmeokmemlaa
open Go.RowKit Go.Maps
set_option linter.unusedSimpArgs false
set_option linter.unusedVariables false

variable {w w' wr : World}

set_option maxHeartbeats 1000000 in
theorem lless_long (l m : List Bool) (hl : l.length ≤ 100) (hlm : l.length = m.length) {v u : Value} {B C : Nat} (hv : Bits w v l B) (hu : Bits w u m C) : Calls Try.prog 36 #[v, u] w (RetN w (.bool (decide (wd l < wd m)))) := by
  obtain ⟨g, cap, cur, rfl, hB, hg, hc⟩ := hv
  obtain ⟨g2, cap2, cur2, rfl, hB2, hg2, hc2⟩ := hu
  have CELL := Lib.hid (bits_cell hg hc)
  have CELL2 := Lib.hid (bits_cell hg2 hc2)
  rw [← hlm] at CELL2 ⊢
  obtain ⟨n, hn⟩ : ∃ n, n = l.length := ⟨_, rfl⟩
  rw [← hn] at hl CELL CELL2 ⊢
  have HN := Lib.hid (And.intro hn hlm)
  obtain ⟨r, hr⟩ : ∃ r, r = decide (wd l < wd m) := ⟨_, rfl⟩
  rw [← hr]
  have HR := Lib.hid hr
  clear hg hc hB hg2 hc2 hB2 hn hlm hr
  go_enter Try.func36, Try.ntmps36
  go_wp2_with fail
  go_loopw [5] (fun j wr => ∃ k q : Nat, j = .int .i64 ((k : Int) - 1) ∧ k ≤ n ∧ wr = w.drewN q ∧ Hid (l.drop k = m.drop k)) (fun j _ => (intOf j + 1).toNat)
  case atStart => exact ⟨n, 0, rfl, Nat.le_refl _, rfl, Lib.hid (by rw [HN.out.1, List.drop_length, HN.out.2, List.drop_length])⟩
  case round =>
    obtain ⟨k, q, rfl, hk, rfl, HD⟩ := hrel
    by_cases h0 : 0 < k
    · obtain ⟨k, rfl⟩ : ∃ j, k = j + 1 := ⟨k - 1, by omega⟩
      have hcell := CELL.out k (by omega)
      have hcell2 := CELL2.out k (by omega)
      have c3 : ((k + 1 : Nat) : Int) - 1 = (k : Int) := by omega
      rw [c3]
      by_cases hne : l.getD k false = m.getD k false
      · have HD2 : Hid (l.drop k = m.drop k) := Lib.hid (by rw [drop_at l k (by have := HN.out.1; omega), drop_at m k (by have := HN.out.1; have := HN.out.2; omega), hne, HD.out])
        rw [hne] at hcell
        clear hne c3 HD
        generalize m.getD k false = b at *
        go_wp2_with fail
        go_quiet (fail)
        go_wp2_with fail
        refine ⟨⟨k, q + nq, by first | rfl | go_num, by omega, by first | rfl | simp, HD2⟩, by first | (simp [intOf]; omega) | simp [intOf]⟩
      · have HT := diff_tells l m k (by rw [← HN.out.2]) (by have := HN.out.1; omega) HD.out hne
        have HT2 := HR.out
        rw [HT] at HT2
        clear HT c3 HD HR
        subst HT2
        generalize m.getD k false = b at *
        generalize l.getD k false = a at *
        cases a <;> cases b <;> simp only [not_true_eq_false, not_false_eq_true, Bool.false_eq_true, Bool.true_eq_false, reduceCtorEq] at hne
        all_goals
          go_wp2_with fail
          go_quiet (fail)
          go_wp2_with fail
          go_ret
          exact ⟨rfl, q + nq, by first | rfl | simp⟩
    · obtain rfl : k = 0 := by omega
      have hd := HD.out
      rw [List.drop_zero, List.drop_zero] at hd
      have HT : r = false := by rw [HR.out, hd]; simp
      clear hd HD HR
      subst HT
      go_wp2_with fail
      go_ret
      exact ⟨rfl, q, rfl⟩

theorem wd_take_mod (a : List Bool) (i : Nat) (h : i ≤ a.length) : wd (a.take i) = wd a % 2 ^ i := by
  have h1 := wd_take a i h
  have h2 := wd_lt (a.take i)
  rw [List.length_take, Nat.min_eq_left h] at h2
  rw [h1, Nat.add_mul_mod_self_left, Nat.mod_eq_of_lt h2]
theorem wd_drop_div (a : List Bool) (i : Nat) (h : i ≤ a.length) : wd (a.drop i) = wd a / 2 ^ i := by
  have h1 := wd_take a i h
  have h2 := wd_lt (a.take i)
  rw [List.length_take, Nat.min_eq_left h] at h2
  rw [h1, Nat.add_mul_div_left _ _ (Nat.two_pow_pos i), Nat.div_eq_of_lt h2, Nat.zero_add]
theorem wd_full : ∀ n, wd (List.replicate n true) + 1 = 2 ^ n
  | 0 => rfl
  | n + 1 => by
    have := wd_full n
    rw [List.replicate_succ, wd, Nat.pow_succ]
    simp; omega
theorem shl_mod (N x s : Nat) (hs : s ≤ N) : (x * 2 ^ s) % 2 ^ N = 2 ^ s * (x % 2 ^ (N - s)) := by
  have e : (2 : Nat) ^ N = 2 ^ (N - s) * 2 ^ s := by rw [← Nat.pow_add]; congr 1; omega
  rw [e, Nat.mul_mod_mul_right, Nat.mul_comm]

def shlL (a : List Bool) (k n : Nat) : List Bool := List.replicate k false ++ a.take (n - k)
theorem shlL_length (a : List Bool) (k n : Nat) (ha : a.length = n) (hk : k ≤ n) : (shlL a k n).length = n := by simp [shlL]; omega
theorem wd_shl (a : List Bool) (k n : Nat) (ha : a.length = n) (hk : k ≤ n) : wd (shlL a k n) = (wd a * 2 ^ k) % 2 ^ n := by
  rw [shlL, wd_append, wd_none, List.length_replicate, wd_take_mod a _ (by omega), shl_mod n _ k hk, Nat.zero_add]
def shrL (a : List Bool) (k : Nat) (f : Bool) : List Bool := a.drop k ++ List.replicate k f
theorem shrL_length (a : List Bool) (k n : Nat) (f : Bool) (ha : a.length = n) (hk : k ≤ n) : (shrL a k f).length = n := by simp [shrL]; omega
theorem wd_shr (a : List Bool) (k n : Nat) (ha : a.length = n) (hk : k ≤ n) : wd (shrL a k false) = wd a / 2 ^ k := by
  rw [shrL, wd_append, wd_none, wd_drop_div a k (by omega), Nat.mul_zero, Nat.add_zero]
theorem wd_sar (a : List Bool) (k n : Nat) (ha : a.length = n) (hk : k ≤ n) : wd (shrL a k true) = wd a / 2 ^ k + (2 ^ n - 2 ^ (n - k)) := by
  have h := wd_full k
  have e : (2 : Nat) ^ n = 2 ^ (n - k) * 2 ^ k := by rw [← Nat.pow_add]; congr 1; omega
  rw [shrL, wd_append, wd_drop_div a k (by omega), List.length_drop, ha, e, ← h, Nat.mul_add, Nat.mul_one, Nat.add_sub_cancel]

theorem getD_append (l m : List Bool) (i : Nat) : (l ++ m).getD i false = if i < l.length then l.getD i false else m.getD (i - l.length) false := by
  simp only [List.getD_eq_getElem?_getD, List.getElem?_append]
  split <;> rfl
theorem getD_rep (k i : Nat) (f : Bool) (h : i < k) : (List.replicate k f).getD i false = f := by
  rw [List.getD_eq_getElem?_getD, List.getElem?_replicate, if_pos h]; rfl
theorem getD_take (a : List Bool) (k i : Nat) (h : i < k) : (a.take k).getD i false = a.getD i false := by
  simp [List.getD_eq_getElem?_getD, List.getElem?_take, h]
theorem getD_drop (a : List Bool) (k i : Nat) : (a.drop k).getD i false = a.getD (k + i) false := by
  simp [List.getD_eq_getElem?_getD, List.getElem?_drop]

theorem shl_okC (a : List Bool) (k n : Nat) (ha : a.length = n) (h0 : 0 < n) (hn : n ≤ 100) (hk : k ≤ n) {v : Value} {B : Nat} (hv : Bits w v a B) :
    Calls Try.prog 29 #[v, .int .i64 k, .bool false] w (BPostC (shlL a k n) w) := by
  refine shift_okC a (shlL a k n) k false n ha (shlL_length a k n ha hk) h0 hn (by omega) (fun i hi => ?_) hv
  rw [shlL, getD_append, List.length_replicate]
  by_cases h : i < k
  · rw [if_pos h, getD_rep k i false h, if_neg (by omega)]
  · rw [if_neg h, if_pos (by omega), getD_take a _ _ (by omega)]
    congr 1; omega
theorem shl_ok (a : List Bool) (k n : Nat) (ha : a.length = n) (h0 : 0 < n) (hn : n ≤ 100) (hk : k ≤ n) {v : Value} {B : Nat} (hv : Bits w v a B) :
    Calls Try.prog 29 #[v, .int .i64 k, .bool false] w (BPost (shlL a k n) w) := (shl_okC a k n ha h0 hn hk hv).mono fun _ _ h => h.b
theorem shr_ok (a : List Bool) (k n : Nat) (f : Bool) (ha : a.length = n) (h0 : 0 < n) (hn : n ≤ 100) (hk : k ≤ n) {v : Value} {B : Nat} (hv : Bits w v a B) :
    Calls Try.prog 29 #[v, .int .i64 (-(k : Int)), .bool f] w (BPost (shrL a k f) w) := by
  refine (shift_okC a (shrL a k f) (-(k : Int)) f n ha (shrL_length a k n f ha hk) h0 hn (by omega) (fun i hi => ?_) hv).mono fun _ _ h => h.b
  rw [shrL, getD_append, List.length_drop, ha]
  by_cases h : i < n - k
  · rw [if_pos h, if_pos (by omega), getD_drop]
    congr 1; omega
  · rw [if_neg h, if_neg (by omega), getD_rep k _ f (by omega)]

/-- A list of so many bits comes out, of which the word is told. -/
def NPost (n val : Nat) (w : World) (e : Ending) (w' : World) : Prop := ∃ v L, e = .returned v ∧ L.length = n ∧ wd L = val ∧ Bits w' v L w.heap.size ∧ Touch (fun _ => False) w w'
theorem BPost.n {L : List Bool} {n val : Nat} {e : Ending} (h : BPost L w e w') (hl : L.length = n) (hv : wd L = val) : NPost n val w e w' := by
  obtain ⟨v, rfl, b, t⟩ := h
  exact ⟨v, L, rfl, hl, hv, b, t⟩

theorem mul_step (x y i n L : Nat) (c : Bool) (hL : L = (x * y) % 2 ^ n) (hc : c = true) : (L + (x * 2 ^ i) % 2 ^ n + b1 false) % 2 ^ n = (x * (y + 2 ^ i * b1 c)) % 2 ^ n := by
  have e0 : b1 false = 0 := rfl
  have e1 : b1 true = 1 := rfl
  rw [hL, hc, e0, e1, Nat.add_zero, Nat.mul_one, Nat.mul_add, ← Nat.add_mod]

set_option maxRecDepth 100000 in
set_option maxHeartbeats 2000000 in
theorem mul_ok (a b : List Bool) (n : Nat) (ha : a.length = n) (hb : b.length = n) (h0 : 0 < n) (hn : n ≤ 100) {v u : Value} {B C : Nat} (hv : Bits w v a B) (hu : Bits w u b C) :
    Calls Try.prog 24 #[v, u] w (NPost n ((wd a * wd b) % 2 ^ n) w) := by
  have hv0 := hv
  obtain ⟨g, cap, cur, rfl, _, _, _⟩ := hv0
  obtain ⟨g2, cap2, cur2, rfl, hB2, hg2, hc2⟩ := hu
  have CB := Lib.hid (fun (w' : World) (t : Touch (fun _ => False) w w') i hi => bits_cell (t.heap (fun h => h) hg2) hc2 i hi)
  have hmk := fun w => run_make40 n (by omega) w
  have M0 := Bits.made n w
  have tA : Touch (fun _ => False) w (w.alloc (.cells (Array.replicate n (.bool false)) 4)) := Touch.alloc _ _ _
  have HM := Lib.hid (And.intro M0 tA)
  have HV := Lib.hid hv
  have HL := Lib.hid (And.intro ha hb)
  rw [ha] at HV ⊢
  rw [hb] at CB ⊢
  clear hB2 hg2 hc2 M0 tA hv ha hb
  go_enter Try.func24, Try.ntmps24
  go_wp2_with fail
  go_loopw [5, 6] (fun vv j wr => ∃ (i : Nat) (L : List Bool) (v : Value), vv = v ∧ j = .int .i64 i ∧ i ≤ n ∧ Hid (Bits wr v L w.heap.size ∧ L.length = n ∧ wd L = (wd a * wd (b.take i)) % 2 ^ n ∧ Touch (fun _ => False) w wr)) (fun _ j _ => n - (intOf j).toNat)
  case atStart => exact ⟨0, List.replicate n false, _, rfl, rfl, Nat.zero_le _, HM.out.1, by simp, by simp [wd_none, wd], HM.out.2⟩
  case round =>
    obtain ⟨i, L, v, rfl, rfl, hi, HB⟩ := hrel
    by_cases hlt : i < n
    · have cb := CB.out wr HB.out.2.2.2 i hlt
      have ht := take_next b i (by rw [HL.out.2]; exact hlt)
      have hw : wd (b.take (i + 1)) = wd (b.take i) + 2 ^ i * b1 (b.getD i false) := by
        rw [ht, wd_append, wd_one, List.length_take, HL.out.2, Nat.min_eq_left (by omega)]
      have HW := Lib.hid hw
      clear ht hw
      cases hbit : b.getD i false with
      | true =>
        rw [hbit] at cb HW
        have SH := Lib.hid (shl_ok a i n HL.out.1 h0 hn (by omega) (HV.out.fresh HB.out.2.2.2))
        clear hbit
        go_wp2_with fail
        refine SH.out.mono ?_
        rintro e w2 ⟨x, rfl, bx, t2⟩
        have AD := Lib.hid (add_ok L (shlL a i n) false n HB.out.2.1 (shlL_length a i n HL.out.1 (by omega)) h0 hn (HB.out.1.fresh t2) bx)
        have T2 := Lib.hid (HB.out.2.2.2.trans t2)
        clear bx t2 SH
        go_wp2_with fail
        refine AD.out.mono ?_
        rintro e w3 ⟨y, rfl, by3, t3⟩
        have NX : Hid (Bits w3 y (addL L (shlL a i n) false n) w.heap.size ∧ (addL L (shlL a i n) false n).length = n ∧ wd (addL L (shlL a i n) false n) = (wd a * wd (b.take (i + 1))) % 2 ^ n ∧ Touch (fun _ => False) w w3) :=
          Lib.hid ⟨by3.low T2.out.size, addL_length _ _ _ _, by
            rw [wd_add _ _ _ n HB.out.2.1 (shlL_length a i n HL.out.1 (by omega)), wd_shl a i n HL.out.1 (by omega), HW.out]
            exact mul_step _ _ _ _ _ true HB.out.2.2.1 rfl, T2.out.trans t3⟩
        clear by3 t3 AD
        go_wp2_with fail
        go_roundw
        case rel => exact ⟨i + 1, _, _, rfl, by go_num, by omega, NX⟩
        case measure => simp [intOf]; omega
      | false =>
        rw [hbit] at cb HW
        have NX : Hid (Bits wr u5 L w.heap.size ∧ L.length = n ∧ wd L = (wd a * wd (b.take (i + 1))) % 2 ^ n ∧ Touch (fun _ => False) w wr) :=
          Lib.hid ⟨HB.out.1, HB.out.2.1, by rw [HW.out, show b1 false = 0 from rfl, Nat.mul_zero, Nat.add_zero]; exact HB.out.2.2.1, HB.out.2.2.2⟩
        clear hbit HB
        go_wp2_with fail
        go_roundw
        case rel => exact ⟨i + 1, L, _, rfl, by go_num, by omega, NX⟩
        case measure => simp [intOf]; omega
    · obtain rfl : i = n := by omega
      have FI : Hid (NPost i ((wd a * wd b) % 2 ^ i) w (.returned u5) wr) := Lib.hid ⟨u5, L, rfl, HB.out.2.1, by
        have h := HB.out.2.2.1
        rwa [List.take_of_length_le (by rw [HL.out.2]; exact Nat.le_refl _)] at h, HB.out.1, HB.out.2.2.2⟩
      clear HB
      go_wp2_with fail
      go_ret
      exact FI.out
end Go.Proofs.Ytphhgmeokmemlaa
