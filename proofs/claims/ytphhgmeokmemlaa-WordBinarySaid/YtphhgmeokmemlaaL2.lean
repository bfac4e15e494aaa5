/- Which of two lists is less; which of two words. -/
import Derived.Test.YtphhgmeokmemlaaL1
namespace Go.Proofs.Ytphhgmeokmemlaa
open Go.RowKit Go.Maps
set_option linter.unusedSimpArgs false
set_option linter.unusedVariables false

variable {w w' : World}

theorem wd_take (l : List Bool) (i : Nat) (h : i ≤ l.length) : wd l = wd (l.take i) + 2 ^ i * wd (l.drop i) := by
  induction i generalizing l with
  | zero => simp [wd]
  | succ i ih =>
    match l, h with
    | b :: r, h =>
      simp only [List.length_cons] at h
      simp only [List.take_succ_cons, List.drop_succ_cons, wd]
      rw [ih r (by omega), Nat.pow_succ]
      have : 2 ^ i * 2 * wd (r.drop i) = 2 * (2 ^ i * wd (r.drop i)) := by rw [Nat.mul_comm (2 ^ i) 2, Nat.mul_assoc]
      omega

/-- The highest place where two lists differ tells which is less. -/
theorem diff_tells (a b : List Bool) (i : Nat) (h : a.length = b.length) (hi : i < a.length) (hd : a.drop (i + 1) = b.drop (i + 1)) (hne : a.getD i false ≠ b.getD i false) :
    decide (wd a < wd b) = b.getD i false := by
  have ha := wd_take a i (by omega)
  have hb := wd_take b i (by omega)
  rw [drop_at a i hi, wd] at ha
  rw [drop_at b i (by omega), wd, ← hd] at hb
  have la := wd_lt (a.take i)
  have lb := wd_lt (b.take i)
  rw [List.length_take, Nat.min_eq_left (by omega)] at la lb
  generalize wd (a.take i) = p at *
  generalize wd (b.take i) = q at *
  generalize wd (a.drop (i + 1)) = r at *
  generalize 2 ^ i = m at *
  rw [Nat.mul_add] at ha hb
  generalize m * (2 * r) = t at *
  cases hx : a.getD i false <;> cases hy : b.getD i false <;> rw [hx] at ha hne <;> rw [hy] at hb hne <;> simp at ha hb hne ⊢ <;> omega

/-- a returned value, the world's order drawn from, nothing else. -/
abbrev RetN (w : World) (v : Value) (e : Ending) (w' : World) : Prop := e = .returned v ∧ ∃ n, w' = w.drewN n

set_option maxHeartbeats 1000000 in
theorem lless_ok (l m : List Bool) (hl : l.length ≤ 64) (hlm : l.length = m.length) {v u : Value} {B C : Nat} (hv : Bits w v l B) (hu : Bits w u m C) : Calls Try.prog 36 #[v, u] w (RetN w (.bool (decide (wd l < wd m)))) := by
  obtain ⟨g, cap, cur, rfl, hB, hg, hc⟩ := hv
  obtain ⟨g2, cap2, cur2, rfl, hB2, hg2, hc2⟩ := hu
  have CELL := Lib.hid (bits_cell hg hc)
  have CELL2 := Lib.hid (bits_cell hg2 hc2)
  rw [← hlm] at CELL2 ⊢
  obtain ⟨n, hn⟩ : ∃ n, n = l.length := ⟨_, rfl⟩
  rw [← hn] at hl CELL CELL2 ⊢
  have HN := Lib.hid (And.intro hn hlm)
  obtain ⟨r, hr⟩ : ∃ r, r = decide (wd l < wd m) := ⟨_, rfl⟩
  rw [← hr]
  have HR := Lib.hid hr
  clear hg hc hB hg2 hc2 hB2 hn hlm hr
  go_enter Try.func36, Try.ntmps36
  go_wp2_with fail
  go_loopw [5] (fun j wr => ∃ k q : Nat, j = .int .i64 ((k : Int) - 1) ∧ k ≤ n ∧ wr = w.drewN q ∧ Hid (l.drop k = m.drop k)) (fun j _ => (intOf j + 1).toNat)
  case atStart => exact ⟨n, 0, rfl, Nat.le_refl _, rfl, Lib.hid (by rw [HN.out.1, List.drop_length, HN.out.2, List.drop_length])⟩
  case round =>
    obtain ⟨k, q, rfl, hk, rfl, HD⟩ := hrel
    by_cases h0 : 0 < k
    · obtain ⟨k, rfl⟩ : ∃ j, k = j + 1 := ⟨k - 1, by omega⟩
      have hcell := CELL.out k (by omega)
      have hcell2 := CELL2.out k (by omega)
      have c3 : ((k + 1 : Nat) : Int) - 1 = (k : Int) := by omega
      rw [c3]
      by_cases hne : l.getD k false = m.getD k false
      · have HD2 : Hid (l.drop k = m.drop k) := Lib.hid (by rw [drop_at l k (by have := HN.out.1; omega), drop_at m k (by have := HN.out.1; have := HN.out.2; omega), hne, HD.out])
        rw [hne] at hcell
        clear hne c3 HD
        generalize m.getD k false = b at *
        go_wp2_with fail
        go_quiet (fail)
        go_wp2_with fail
        refine ⟨⟨k, q + nq, by first | rfl | go_num, by omega, by first | rfl | simp, HD2⟩, by first | (simp [intOf]; omega) | simp [intOf]⟩
      · have HT := diff_tells l m k (by rw [← HN.out.2]) (by have := HN.out.1; omega) HD.out hne
        have HT2 := HR.out
        rw [HT] at HT2
        clear HT c3 HD HR
        subst HT2
        generalize m.getD k false = b at *
        generalize l.getD k false = a at *
        cases a <;> cases b <;> simp only [not_true_eq_false, not_false_eq_true, Bool.false_eq_true, Bool.true_eq_false, reduceCtorEq] at hne
        all_goals
          go_wp2_with fail
          go_quiet (fail)
          go_wp2_with fail
          go_ret
          exact ⟨rfl, q + nq, by first | rfl | simp⟩
    · obtain rfl : k = 0 := by omega
      have hd := HD.out
      rw [List.drop_zero, List.drop_zero] at hd
      have HT : r = false := by rw [HR.out, hd]; simp
      clear hd HD HR
      subst HT
      go_wp2_with fail
      go_ret
      exact ⟨rfl, q, rfl⟩
end Go.Proofs.Ytphhgmeokmemlaa
