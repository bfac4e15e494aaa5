/- Bits looked at one by one from the lowest: how many are 1, how many 0 are ahead, how many behind. -/
import Derived.Test.YtphhgmeokmemlaaDoorQ2
namespace Go.Proofs.YtphhgmeokmemlaaDoor
open Go
set_option linter.unusedSimpArgs false
set_option linter.unusedVariables false

theorem pa_snoc : ∀ (i x : Nat), Lib.popAux (i + 1) x = Lib.popAux i x + x / 2 ^ i % 2
  | 0, x => by simp [Lib.popAux]
  | i + 1, x => by
    have ih := pa_snoc i (x / 2)
    rw [show Lib.popAux (i + 1 + 1) x = x % 2 + Lib.popAux (i + 1) (x / 2) from rfl, ih, show Lib.popAux (i + 1) x = x % 2 + Lib.popAux i (x / 2) from rfl, Nat.div_div_eq_div_mul, Nat.pow_succ, Nat.mul_comm 2]
    omega

def ahead (x : Nat) : Nat → Nat
  | 0 => 0
  | i + 1 => if x / 2 ^ i % 2 = 1 then 0 else ahead x i + 1
def behind (x : Nat) : Nat → Nat
  | 0 => 0
  | i + 1 => if x / 2 ^ i % 2 = 1 then behind x i else if Lib.popAux i x = 0 then behind x i + 1 else behind x i

theorem mod_snoc (x i : Nat) : x % 2 ^ (i + 1) = x % 2 ^ i + 2 ^ i * (x / 2 ^ i % 2) := by
  rw [Nat.pow_succ, Nat.mod_mul]

theorem ahead_spec (x : Nat) : ∀ i, ahead x i ≤ i ∧ x % 2 ^ i < 2 ^ (i - ahead x i) ∧ (ahead x i < i → x / 2 ^ (i - ahead x i - 1) % 2 = 1)
  | 0 => ⟨Nat.le_refl _, by simp [ahead]; omega, fun h => absurd h (Nat.not_lt_zero _)⟩
  | i + 1 => by
    obtain ⟨h1, h2, h3⟩ := ahead_spec x i
    unfold ahead
    split
    · rename_i hb
      refine ⟨Nat.zero_le _, ?_, fun _ => ?_⟩
      · rw [Nat.sub_zero]; exact Nat.mod_lt _ (Nat.two_pow_pos _)
      · rw [Nat.sub_zero, Nat.add_sub_cancel]; exact hb
    · rename_i hb
      have hb0 : x / 2 ^ i % 2 = 0 := by omega
      have e : i + 1 - (ahead x i + 1) = i - ahead x i := by omega
      rw [e, mod_snoc, hb0, Nat.mul_zero, Nat.add_zero]
      exact ⟨by omega, h2, fun h => h3 (by omega)⟩

theorem ahead_eq (N x : Nat) (hN : N ≤ 64) (hx : x < 2 ^ N) : ahead x N = N - Lib.bitLen x := by
  obtain ⟨h1, h2, h3⟩ := ahead_spec x N
  rw [Nat.mod_eq_of_lt hx] at h2
  have hl : Lib.bitLen x ≤ N - ahead x N := Lib.bitLenAux_le 64 x _ h2
  have h64 : (2 : Nat) ^ N ≤ 2 ^ 64 := Nat.pow_le_pow_right (by decide) hN
  have hx64 : x < 18446744073709551616 := Nat.lt_of_lt_of_le hx h64
  have hlt : x < 2 ^ Lib.bitLen x := bitLenAux_lt 64 x hx64
  have hge : N - ahead x N ≤ Lib.bitLen x := by
    by_cases ha : ahead x N < N
    · have h4 := h3 ha
      apply Nat.le_of_not_lt
      intro hh
      have h5 : (2 : Nat) ^ Lib.bitLen x ≤ 2 ^ (N - ahead x N - 1) := Nat.pow_le_pow_right (by decide) (by omega)
      rw [Nat.div_eq_of_lt (Nat.lt_of_lt_of_le hlt h5)] at h4
      simp at h4
    · omega
  omega

theorem behind_spec (x : Nat) : ∀ i, (Lib.popAux i x = 0 → behind x i = i ∧ x % 2 ^ i = 0) ∧ (Lib.popAux i x ≠ 0 → behind x i < i ∧ x % 2 ^ behind x i = 0 ∧ x / 2 ^ behind x i % 2 = 1)
  | 0 => ⟨fun _ => ⟨rfl, by simp; omega⟩, fun h => absurd rfl h⟩
  | i + 1 => by
    obtain ⟨h1, h2⟩ := behind_spec x i
    rw [pa_snoc]
    unfold behind
    by_cases hb : x / 2 ^ i % 2 = 1
    · rw [if_pos hb, hb]
      refine ⟨fun h => by omega, fun _ => ?_⟩
      by_cases h0 : Lib.popAux i x = 0
      · obtain ⟨e1, e2⟩ := h1 h0
        rw [e1]
        exact ⟨by omega, e2, hb⟩
      · obtain ⟨e1, e2, e3⟩ := h2 h0
        exact ⟨by omega, e2, e3⟩
    · have hb0 : x / 2 ^ i % 2 = 0 := by omega
      rw [if_neg hb, hb0, Nat.add_zero]
      by_cases h0 : Lib.popAux i x = 0
      · obtain ⟨e1, e2⟩ := h1 h0
        rw [if_pos h0]
        refine ⟨fun _ => ⟨by omega, by rw [mod_snoc, e2, hb0, Nat.mul_zero]⟩, fun h => absurd h0 h⟩
      · obtain ⟨e1, e2, e3⟩ := h2 h0
        rw [if_neg h0]
        exact ⟨fun h => absurd h h0, fun _ => ⟨by omega, e2, e3⟩⟩

theorem even_of (x a b : Nat) (h : x % 2 ^ b = 0) (hab : a < b) : x / 2 ^ a % 2 = 0 := by
  obtain ⟨d, rfl⟩ : ∃ d, b = a + (d + 1) := ⟨b - a - 1, by omega⟩
  obtain ⟨c, hc⟩ := Nat.dvd_of_mod_eq_zero h
  rw [hc, Nat.pow_add, Nat.mul_assoc, Nat.mul_div_cancel_left _ (Nat.two_pow_pos a), Nat.pow_succ, Nat.mul_comm (2 ^ d) 2, Nat.mul_assoc]
  exact Nat.mul_mod_right _ _

theorem behind_eq (N x : Nat) (hN : N ≤ 64) (hx : x < 2 ^ N) : behind x N = min (Lib.ctz 64 x) N := by
  have h64 : (2 : Nat) ^ N ≤ 2 ^ 64 := Nat.pow_le_pow_right (by decide) hN
  have hx64 : x < 18446744073709551616 := Nat.lt_of_lt_of_le hx h64
  obtain ⟨h1, h2⟩ := behind_spec x N
  by_cases h0 : Lib.popAux N x = 0
  · obtain ⟨e1, e2⟩ := h1 h0
    rw [Nat.mod_eq_of_lt hx] at e2
    rw [e1, e2]
    have : Lib.ctz 64 0 = 64 := rfl
    rw [this]; omega
  · obtain ⟨e1, e2, e3⟩ := h2 h0
    have hx0 : x ≠ 0 := by
      intro e
      rw [e, pa_zero] at h0
      exact h0 rfl
    obtain ⟨g1, g2, g3, g4, g5, g6⟩ := ends x hx64 hx0
    have hmod : x % 2 ^ Lib.ctz 64 x = 0 := by
      obtain ⟨m, hm⟩ := ctz_spec x hx64 hx0
      conv => lhs; lhs; rw [hm]
      exact Nat.mul_mod_right _ _
    have ht : behind x N = Lib.ctz 64 x := by
      rcases Nat.lt_trichotomy (behind x N) (Lib.ctz 64 x) with h | h | h
      · have := even_of x _ _ hmod h
        omega
      · exact h
      · have := even_of x _ _ e2 h
        omega
    omega

theorem ones_eq (N x : Nat) (hN : N ≤ 64) (hx : x < 2 ^ N) : Lib.popAux N x = Lib.popAux 64 x := by
  have h64 : (2 : Nat) ^ N ≤ 2 ^ 64 := Nat.pow_le_pow_right (by decide) hN
  exact pa_fuel N 64 x hx (Nat.lt_of_lt_of_le hx h64)
theorem ones_none (x : Nat) (hx : x < 18446744073709551616) : (if Lib.popAux 64 x = 0 then 1 else 0 : Nat) = if x = 0 then 1 else 0 := by
  by_cases h : x = 0
  · subst h; rfl
  · obtain ⟨_, _, g3, _⟩ := ends x hx h
    rw [if_neg (by omega), if_neg h]
end Go.Proofs.YtphhgmeokmemlaaDoor
