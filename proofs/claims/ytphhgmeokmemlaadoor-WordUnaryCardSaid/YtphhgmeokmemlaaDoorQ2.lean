/- Words turned and shifted, their bits counted: the plain laws. -/
import Derived.Test.YtphhgmeokmemlaaDoorQ1
namespace Go.Proofs.YtphhgmeokmemlaaDoor
open Go
set_option linter.unusedSimpArgs false
set_option linter.unusedVariables false

theorem shl_mod (N x s : Nat) (hs : s ≤ N) : (x * 2 ^ s) % 2 ^ N = 2 ^ s * (x % 2 ^ (N - s)) := by
  have e : (2 : Nat) ^ N = 2 ^ (N - s) * 2 ^ s := by rw [← Nat.pow_add]; congr 1; omega
  rw [e, Nat.mul_mod_mul_right, Nat.mul_comm]

theorem rot_arith (N x s : Nat) (hx : x < 2 ^ N) (hs : s ≤ N) : (x * 2 ^ s) % 2 ^ N ||| x / 2 ^ (N - s) = x / 2 ^ (N - s) + 2 ^ s * (x % 2 ^ (N - s)) := by
  have hu : x / 2 ^ (N - s) < 2 ^ s := by
    apply Nat.div_lt_of_lt_mul
    rw [← Nat.pow_add]
    rwa [show N - s + s = N by omega]
  rw [shl_mod N x s hs, ← Nat.two_pow_add_eq_or_of_lt hu, Nat.add_comm]

theorem turn_back (N x s : Nat) (hx : x < 2 ^ N) (hs : s < N) :
    (x / 2 ^ (N - s) + 2 ^ s * (x % 2 ^ (N - s))) / 2 ^ (N - (N - s) % N) + 2 ^ ((N - s) % N) * ((x / 2 ^ (N - s) + 2 ^ s * (x % 2 ^ (N - s))) % 2 ^ (N - (N - s) % N)) = x := by
  by_cases h0 : s = 0
  · subst h0
    simp only [Nat.sub_zero, Nat.mod_self, Nat.pow_zero, Nat.one_mul]
    rw [Nat.div_eq_of_lt hx, Nat.mod_eq_of_lt hx, Nat.zero_add, Nat.div_eq_of_lt hx, Nat.mod_eq_of_lt hx, Nat.zero_add]
  · have e1 : (N - s) % N = N - s := Nat.mod_eq_of_lt (by omega)
    have hu : x / 2 ^ (N - s) < 2 ^ s := by
      apply Nat.div_lt_of_lt_mul
      rw [← Nat.pow_add]
      rwa [show N - s + s = N by omega]
    rw [e1, show N - (N - s) = s by omega, Nat.add_mul_div_left _ _ (Nat.two_pow_pos s), Nat.div_eq_of_lt hu, Nat.zero_add, Nat.add_mul_mod_self_left, Nat.mod_eq_of_lt hu]
    exact Nat.mod_add_div x (2 ^ (N - s))

theorem pa_turn (N x s : Nat) (hx : x < 2 ^ N) (hs : s ≤ N) (hN : N ≤ 64) : Lib.popAux 64 (x / 2 ^ (N - s) + 2 ^ s * (x % 2 ^ (N - s))) = Lib.popAux 64 x := by
  have hu : x / 2 ^ (N - s) < 2 ^ s := by
    apply Nat.div_lt_of_lt_mul
    rw [← Nat.pow_add]
    rwa [show N - s + s = N by omega]
  have hv : x % 2 ^ (N - s) < 2 ^ (N - s) := Nat.mod_lt _ (Nat.two_pow_pos _)
  have j1 := pa_join s (N - s) _ (x % 2 ^ (N - s)) hu
  have j2 := pa_join (N - s) s _ (x / 2 ^ (N - s)) hv
  rw [Nat.mod_add_div] at j2
  rw [show s + (N - s) = N by omega] at j1
  rw [show N - s + s = N by omega] at j2
  have h64 : (2 : Nat) ^ N ≤ 2 ^ 64 := Nat.pow_le_pow_right (by decide) hN
  have hy : x / 2 ^ (N - s) + 2 ^ s * (x % 2 ^ (N - s)) < 2 ^ N := by
    have e : (2 : Nat) ^ N = 2 ^ s * 2 ^ (N - s) := by rw [← Nat.pow_add]; congr 1; omega
    have : 2 ^ s * (x % 2 ^ (N - s) + 1) ≤ 2 ^ s * 2 ^ (N - s) := Nat.mul_le_mul_left _ hv
    rw [Nat.mul_add, Nat.mul_one, ← e] at this
    omega
  rw [pa_fuel 64 N _ (by omega) hy, pa_fuel 64 N x (by omega) hx, j1, j2, Nat.add_comm]

theorem shift_lost (N x s : Nat) (hs : s ≤ N) : (((x * 2 ^ s) % 2 ^ N / 2 ^ s) ^^^ x) * 2 ^ s % 2 ^ N = 0 := by
  rw [shl_mod N x s hs, Nat.mul_div_cancel_left _ (Nat.two_pow_pos s), shl_mod N _ s hs, Nat.xor_mod_two_pow, Nat.mod_mod, Nat.xor_self, Nat.mul_zero]

theorem pa_and_or : ∀ (f a b : Nat), Lib.popAux f (a &&& b) + Lib.popAux f (a ||| b) = Lib.popAux f a + Lib.popAux f b
  | 0, _, _ => rfl
  | f + 1, a, b => by
    have ih := pa_and_or f (a / 2) (b / 2)
    have h1 := Nat.and_div_two_pow (a := a) (b := b) (n := 1)
    have h2 := Nat.or_div_two_pow (a := a) (b := b) (n := 1)
    have h3 := Nat.and_mod_two_pow (a := a) (b := b) (n := 1)
    have h4 := Nat.or_mod_two_pow (a := a) (b := b) (n := 1)
    simp only [Nat.pow_one] at h1 h2 h3 h4
    simp only [Lib.popAux]
    rw [h1, h2, h3, h4]
    have ha : a % 2 = 0 ∨ a % 2 = 1 := by omega
    have hb : b % 2 = 0 ∨ b % 2 = 1 := by omega
    rcases ha with ha | ha <;> rcases hb with hb | hb <;> rw [ha, hb] <;> simp <;> omega

/-! ### the highest bit and the lowest -/
theorem bitLenAux_lt : ∀ (f x : Nat), x < 2 ^ f → x < 2 ^ Lib.bitLenAux f x
  | 0, x, h => by simpa [Lib.bitLenAux] using h
  | f + 1, x, h => by
    simp only [Lib.bitLenAux]
    split
    · rename_i h0; simp [h0]
    · have ih := bitLenAux_lt f (x / 2) (by rw [Nat.pow_succ] at h; omega)
      rw [Nat.add_comm 1, Nat.pow_succ]
      omega
theorem bitLen_spec (x : Nat) (hx : x < 18446744073709551616) (h0 : x ≠ 0) : 1 ≤ Lib.bitLen x ∧ 2 ^ (Lib.bitLen x - 1) ≤ x ∧ x < 2 ^ Lib.bitLen x := by
  have h1 : x < 2 ^ Lib.bitLen x := bitLenAux_lt 64 x (by simpa using hx)
  have h2 : 1 ≤ Lib.bitLen x := by
    apply Nat.pos_of_ne_zero
    intro e
    rw [e] at h1
    simp at h1
    exact h0 h1
  refine ⟨h2, ?_, h1⟩
  apply Nat.le_of_not_lt
  intro hlt
  have := Lib.bitLenAux_le 64 x (Lib.bitLen x - 1) hlt
  have e : Lib.bitLenAux 64 x = Lib.bitLen x := rfl
  omega
theorem ctz_spec (x : Nat) (hx : x < 18446744073709551616) (h0 : x ≠ 0) : ∃ m, x = 2 ^ Lib.ctz 64 x * (2 * m + 1) := by
  have h := Lib.ctzFrom_spec 64 x (by omega) (by simpa using hx)
  unfold Lib.ctz
  rw [if_neg h0]
  obtain ⟨m, hm, _⟩ := h
  exact ⟨m, hm⟩
theorem pa_le' : ∀ f x, Lib.popAux f x ≤ f
  | 0, _ => Nat.le_refl _
  | f + 1, x => by
    have := pa_le' f (x / 2)
    simp only [Lib.popAux]; omega
theorem pa_zero : ∀ f, Lib.popAux f 0 = 0
  | 0 => rfl
  | f + 1 => by simp [Lib.popAux, pa_zero f]

/-- What is ahead of the highest bit, behind the lowest one, and the bits that are 1. -/
theorem ends (x : Nat) (hx : x < 18446744073709551616) (h0 : x ≠ 0) :
    Lib.ctz 64 x < Lib.bitLen x ∧ Lib.ctz 64 x + Lib.popAux 64 x ≤ Lib.bitLen x ∧ 1 ≤ Lib.popAux 64 x ∧ x / 2 ^ (Lib.bitLen x - 1) = 1 ∧ x / 2 ^ Lib.ctz 64 x % 2 = 1 ∧ x / 2 ^ Lib.ctz 64 x * 2 ^ Lib.ctz 64 x = x := by
  obtain ⟨h1, h2, h3⟩ := bitLen_spec x hx h0
  obtain ⟨m, hm⟩ := ctz_spec x hx h0
  generalize Lib.ctz 64 x = t at *
  generalize Lib.bitLen x = L at *
  have htL : t < L := by
    apply Nat.lt_of_not_le
    intro hle
    have h4 : 2 ^ L ≤ 2 ^ t := Nat.pow_le_pow_right (by decide) hle
    have h5 : 2 ^ t ≤ 2 ^ t * (2 * m + 1) := Nat.le_mul_of_pos_right _ (by omega)
    omega
  have hdiv : x / 2 ^ t = 2 * m + 1 := by rw [hm, Nat.mul_div_cancel_left _ (Nat.two_pow_pos t)]
  have hp : Lib.popAux 64 x = Lib.popAux (L - t) (2 * m + 1) := by
    have j := pa_join t (L - t) 0 (2 * m + 1) (Nat.two_pow_pos t)
    have e1 : t + (L - t) = L := by clear hm hx h2 h3 hdiv j; omega
    rw [pa_zero, Nat.zero_add, Nat.zero_add, ← hm, e1] at j
    have h64 : x < 2 ^ 64 := hx
    exact (pa_fuel 64 L x h64 h3).trans j
  have k5 : x / 2 ^ t % 2 = 1 := by rw [hdiv]; clear hm hx h2 h3 hp hdiv; omega
  have k6 : x / 2 ^ t * 2 ^ t = x := by rw [hdiv, Nat.mul_comm]; exact hm.symm
  have k1 : t + Lib.popAux 64 x ≤ L := by
    rw [hp]
    have := pa_le' (L - t) (2 * m + 1)
    clear hm hx h2 h3 hp hdiv k5 k6
    omega
  have k2 : 1 ≤ Lib.popAux 64 x := by
    rw [hp]
    obtain ⟨d, hd⟩ : ∃ d, L - t = d + 1 := ⟨L - t - 1, by clear hm hx h2 h3 hp hdiv k5 k6 k1; omega⟩
    rw [hd]
    show 1 ≤ (2 * m + 1) % 2 + Lib.popAux d ((2 * m + 1) / 2)
    clear hm hx h2 h3 hp hdiv k5 k6 k1 hd
    omega
  have k3 : x / 2 ^ (L - 1) = 1 := by
    have eL : L - 1 + 1 = L := Nat.sub_add_cancel h1
    have e : 2 ^ L = 2 * 2 ^ (L - 1) := by
      have e2 : 2 ^ (L - 1 + 1) = 2 ^ (L - 1) * 2 := Nat.pow_succ 2 (L - 1)
      rw [eL] at e2
      rw [e2]
      exact Nat.mul_comm _ _
    rw [e] at h3
    clear eL e
    have hBp : 0 < 2 ^ (L - 1) := Nat.two_pow_pos _
    generalize 2 ^ (L - 1) = B at *
    clear hm hp hdiv k5 k6 k1 k2
    exact Nat.div_eq_of_lt_le (by omega) (by omega)
  exact ⟨htL, k1, k2, k3, k5, k6⟩
end Go.Proofs.YtphhgmeokmemlaaDoor
