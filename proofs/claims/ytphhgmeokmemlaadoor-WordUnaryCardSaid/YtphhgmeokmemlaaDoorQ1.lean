/- Bits counted, side by side and one by one: the plain law behind a count of the bits of 64. -/
import Derived.Lib.BitFns
import Derived.Lib.TrailingZeros
namespace Go.Proofs.YtphhgmeokmemlaaDoor
open Go
set_option linter.unusedSimpArgs false
set_option linter.unusedVariables false

abbrev pa := Lib.popAux

def mk (m : Nat) : Nat → Nat
  | 0 => 0
  | n + 1 => m + 256 * mk m n
def mapB (f : Nat → Nat) : Nat → Nat → Nat
  | 0, _ => 0
  | n + 1, x => f (x % 256) + 256 * mapB f n (x / 256)
def sumB (f : Nat → Nat) : Nat → Nat → Nat
  | 0, _ => 0
  | n + 1, x => f (x % 256) + sumB f n (x / 256)

theorem and_split (d a e b : Nat) (hd : d < 256) (he : e < 256) : (d + 256 * a) &&& (e + 256 * b) = (d &&& e) + 256 * (a &&& b) := by
  have h1 := Nat.and_mod_two_pow (a := d + 256 * a) (b := e + 256 * b) (n := 8)
  have h2 := Nat.and_div_two_pow (a := d + 256 * a) (b := e + 256 * b) (n := 8)
  simp only [show (2 : Nat) ^ 8 = 256 from rfl] at h1 h2
  rw [show (d + 256 * a) % 256 = d by omega, show (e + 256 * b) % 256 = e by omega] at h1
  rw [show (d + 256 * a) / 256 = a by omega, show (e + 256 * b) / 256 = b by omega] at h2
  omega

def p1 (d : Nat) : Nat := (d / 2 &&& 85) + (d &&& 85)
def p2 (d : Nat) : Nat := (d / 4 &&& 51) + (d &&& 51)
def q2 (d : Nat) : Nat := p2 (p1 d)

theorem low1 : ∀ d : Fin 256, ∀ t : Fin 2, (d.val / 2 + 128 * t.val) &&& 85 = d.val / 2 &&& 85 := by decide +kernel
theorem low2 : ∀ d : Fin 256, ∀ t : Fin 4, (d.val / 4 + 64 * t.val) &&& 51 = d.val / 4 &&& 51 := by decide +kernel
theorem p1_lt : ∀ d : Fin 256, p1 d.val < 256 := by decide +kernel
theorem q2_le : ∀ d : Fin 256, q2 d.val / 16 ≤ 4 ∧ q2 d.val % 16 ≤ 4 := by decide +kernel
theorem q2_pop : ∀ d : Fin 256, (q2 d.val / 16 + q2 d.val) % 16 = Lib.popAux 8 d.val ∧ Lib.popAux 8 d.val ≤ 8 := by decide +kernel

theorem mapB_lt (f : Nat → Nat) (hf : ∀ d, d < 256 → f d < 256) : ∀ n x, mapB f n x < 256 ^ n
  | 0, _ => by simp [mapB]
  | n + 1, x => by
    have h1 := mapB_lt f hf n (x / 256)
    have h2 := hf (x % 256) (Nat.mod_lt _ (by decide))
    rw [mapB, Nat.pow_succ]
    omega

theorem step1 : ∀ n x, x < 256 ^ n → (x / 2 &&& mk 85 n) + (x &&& mk 85 n) = mapB p1 n x
  | 0, x, h => by simp [mk, mapB]
  | n + 1, x, h => by
    have ih := step1 n (x / 256) (by rw [Nat.pow_succ] at h; omega)
    have hd : x % 256 < 256 := Nat.mod_lt _ (by decide)
    have e1 : x / 2 = (x % 256 / 2 + 128 * (x / 256 % 2)) + 256 * (x / 256 / 2) := by omega
    have e2 : x = x % 256 + 256 * (x / 256) := by omega
    have l := low1 ⟨x % 256, hd⟩ ⟨x / 256 % 2, Nat.mod_lt _ (by decide)⟩
    simp only at l
    have h1 : x / 2 &&& mk 85 (n + 1) = (x % 256 / 2 &&& 85) + 256 * (x / 256 / 2 &&& mk 85 n) := by
      rw [e1, mk, and_split _ _ _ _ (by omega) (by decide), l]
    have h2 : x &&& mk 85 (n + 1) = (x % 256 &&& 85) + 256 * (x / 256 &&& mk 85 n) := by
      conv => lhs; rw [e2]
      rw [mk, and_split _ _ _ _ hd (by decide)]
    rw [h1, h2, mapB, ← ih, p1]
    omega

theorem step2 : ∀ n x, x < 256 ^ n → (x / 4 &&& mk 51 n) + (x &&& mk 51 n) = mapB p2 n x
  | 0, x, h => by simp [mk, mapB]
  | n + 1, x, h => by
    have ih := step2 n (x / 256) (by rw [Nat.pow_succ] at h; omega)
    have hd : x % 256 < 256 := Nat.mod_lt _ (by decide)
    have e1 : x / 4 = (x % 256 / 4 + 64 * (x / 256 % 4)) + 256 * (x / 256 / 4) := by omega
    have e2 : x = x % 256 + 256 * (x / 256) := by omega
    have l := low2 ⟨x % 256, hd⟩ ⟨x / 256 % 4, Nat.mod_lt _ (by decide)⟩
    simp only at l
    have h1 : x / 4 &&& mk 51 (n + 1) = (x % 256 / 4 &&& 51) + 256 * (x / 256 / 4 &&& mk 51 n) := by
      rw [e1, mk, and_split _ _ _ _ (by omega) (by decide), l]
    have h2 : x &&& mk 51 (n + 1) = (x % 256 &&& 51) + 256 * (x / 256 &&& mk 51 n) := by
      conv => lhs; rw [e2]
      rw [mk, and_split _ _ _ _ hd (by decide)]
    rw [h1, h2, mapB, ← ih, p2]
    omega

theorem mapB_comp (f g : Nat → Nat) (hg : ∀ d, d < 256 → g d < 256) : ∀ n x, mapB f n (mapB g n x) = mapB (fun d => f (g d)) n x
  | 0, _ => rfl
  | n + 1, x => by
    have h1 := hg (x % 256) (Nat.mod_lt _ (by decide))
    have ih := mapB_comp f g hg n (x / 256)
    rw [show mapB g (n + 1) x = g (x % 256) + 256 * mapB g n (x / 256) from rfl]
    rw [mapB, show (g (x % 256) + 256 * mapB g n (x / 256)) % 256 = g (x % 256) by omega, show (g (x % 256) + 256 * mapB g n (x / 256)) / 256 = mapB g n (x / 256) by omega, ih]
    rfl

theorem step3 : ∀ n x, (mapB q2 n x / 16 + mapB q2 n x) &&& mk 15 n = mapB (Lib.popAux 8) n x ∧ mapB q2 n x % 16 ≤ 4
  | 0, x => by simp [mk, mapB]
  | n + 1, x => by
    obtain ⟨ih, hlow⟩ := step3 n (x / 256)
    have hd : x % 256 < 256 := Nat.mod_lt _ (by decide)
    have hq := q2_le ⟨x % 256, hd⟩
    have hp := q2_pop ⟨x % 256, hd⟩
    simp only at hq hp
    rw [show mapB q2 (n + 1) x = q2 (x % 256) + 256 * mapB q2 n (x / 256) from rfl, show mapB (Lib.popAux 8) (n + 1) x = Lib.popAux 8 (x % 256) + 256 * mapB (Lib.popAux 8) n (x / 256) from rfl, ← ih, ← hp.1]
    generalize q2 (x % 256) = u at *
    generalize mapB q2 n (x / 256) = a at *
    refine ⟨?_, by
      have : (u + 256 * a) % 16 = u % 16 := by omega
      omega⟩
    rw [show (u + 256 * a) / 16 + (u + 256 * a) = (u / 16 + u + 16 * (a % 16)) + 256 * (a / 16 + a) by omega, mk, and_split _ _ _ _ (by omega) (by decide)]
    rw [show (u / 16 + u + 16 * (a % 16)) &&& 15 = (u / 16 + u + 16 * (a % 16)) % 16 from Nat.and_two_pow_sub_one_eq_mod _ 4]
    omega

/-! ### bits counted one by one -/
theorem pa_join : ∀ (s f u v : Nat), u < 2 ^ s → Lib.popAux (s + f) (u + 2 ^ s * v) = Lib.popAux s u + Lib.popAux f v
  | 0, f, u, v, h => by
    have : u = 0 := by simpa using h
    subst this
    simp [Lib.popAux]
  | s + 1, f, u, v, h => by
    have hu : u / 2 < 2 ^ s := by rw [Nat.pow_succ] at h; omega
    have ih := pa_join s f (u / 2) v hu
    rw [show s + 1 + f = (s + f) + 1 by omega]
    simp only [Lib.popAux]
    rw [show (u + 2 ^ (s + 1) * v) % 2 = u % 2 by rw [Nat.pow_succ, Nat.mul_comm (2 ^ s) 2, Nat.mul_assoc]; omega,
      show (u + 2 ^ (s + 1) * v) / 2 = u / 2 + 2 ^ s * v by rw [Nat.pow_succ, Nat.mul_comm (2 ^ s) 2, Nat.mul_assoc]; omega, ih]
    omega

theorem pa_fuel : ∀ (f g x : Nat), x < 2 ^ f → x < 2 ^ g → Lib.popAux f x = Lib.popAux g x
  | 0, 0, _, _, _ => rfl
  | 0, g + 1, x, h, _ => by
    have : x = 0 := by simpa using h
    subst this
    have := pa_fuel 0 g 0 (by simp) (Nat.two_pow_pos g)
    simp only [Lib.popAux] at this ⊢
    simpa using this
  | f + 1, 0, x, _, h => by
    have : x = 0 := by simpa using h
    subst this
    have := pa_fuel f 0 0 (Nat.two_pow_pos f) (by simp)
    simp only [Lib.popAux] at this ⊢
    simpa using this
  | f + 1, g + 1, x, h1, h2 => by
    simp only [Lib.popAux]
    rw [pa_fuel f g (x / 2) (by rw [Nat.pow_succ] at h1; omega) (by rw [Nat.pow_succ] at h2; omega)]

theorem pa_sum : ∀ n x, x < 256 ^ n → Lib.popAux (8 * n) x = sumB (Lib.popAux 8) n x
  | 0, x, h => rfl
  | n + 1, x, h => by
    have ih := pa_sum n (x / 256) (by rw [Nat.pow_succ] at h; omega)
    have := pa_join 8 (8 * n) (x % 256) (x / 256) (Nat.mod_lt _ (by decide))
    rw [show x % 256 + 2 ^ 8 * (x / 256) = x by omega] at this
    rw [show 8 * (n + 1) = 8 + 8 * n by omega, this, ih]
    rfl

/-- What the count of the bits of 64 does. -/
def swar (x : Nat) : Nat :=
  let a := (x / 2 &&& 6148914691236517205) + (x &&& 6148914691236517205)
  let b := (a / 4 &&& 3689348814741910323) + (a &&& 3689348814741910323)
  (b / 16 + b) &&& 1085102592571150095

theorem swar_eq (x : Nat) (h : x < 18446744073709551616) : swar x = mapB (Lib.popAux 8) 8 x := by
  have e1 := step1 8 x (by simpa using h)
  have hp1 : ∀ d, d < 256 → p1 d < 256 := fun d hd => p1_lt ⟨d, hd⟩
  have e2 := step2 8 (mapB p1 8 x) (mapB_lt p1 hp1 8 x)
  have e3 := (step3 8 x).1
  rw [mapB_comp p2 p1 hp1] at e2
  rw [show mk 85 8 = 6148914691236517205 by decide +kernel] at e1
  rw [show mk 51 8 = 3689348814741910323 by decide +kernel] at e2
  rw [show mk 15 8 = 1085102592571150095 by decide +kernel] at e3
  unfold swar
  rw [e1]
  simp only
  rw [e2]
  exact e3

theorem fold8 (z0 z1 z2 z3 z4 z5 z6 z7 p0 p1 p2 p3 p4 p5 p6 : Nat) (h0 : p0 ≤ 8) (h1 : p1 ≤ 8) (h2 : p2 ≤ 8) (h3 : p3 ≤ 8) (h4 : p4 ≤ 8) (h5 : p5 ≤ 8) (h6 : p6 ≤ 8) (h7 : z7 ≤ 8)
    (e0 : z0 = p0 + 256 * z1) (e1 : z1 = p1 + 256 * z2) (e2 : z2 = p2 + 256 * z3) (e3 : z3 = p3 + 256 * z4) (e4 : z4 = p4 + 256 * z5) (e5 : z5 = p5 + 256 * z6) (e6 : z6 = p6 + 256 * z7) :
    ((z0 + z0 / 256) + (z0 + z0 / 256) / 65536 + ((z0 + z0 / 256) + (z0 + z0 / 256) / 65536) / 4294967296) % 128 = p0 + p1 + p2 + p3 + p4 + p5 + p6 + z7 ∧ z0 < 2305843009213693952 := by
  have b0 : z0 + z1 + (z2 + z3) = (p0 + p1 + p2 + p3) + 256 * (z1 + z2 + z3 + z4) := by clear h0 h1 h2 h3 h4 h5 h6 h7; omega
  have b1 : z1 + z2 + z3 + z4 = (p1 + p2 + p3 + p4) + 256 * (z2 + z3 + z4 + z5) := by clear b0 h0 h1 h2 h3 h4 h5 h6 h7; omega
  have b2 : z2 + z3 + z4 + z5 = (p2 + p3 + p4 + p5) + 256 * (z3 + z4 + z5 + z6) := by clear b0 b1 h0 h1 h2 h3 h4 h5 h6 h7; omega
  have b3 : z3 + z4 + z5 + z6 = (p3 + p4 + p5 + p6) + 256 * (z4 + z5 + z6 + z7) := by clear b0 b1 b2 h0 h1 h2 h3 h4 h5 h6 h7; omega
  have b4 : z4 + z5 + z6 + z7 = (p4 + p5 + p6 + z7) + 256 * (z5 + z6 + z7) := by clear b0 b1 b2 b3 h0 h1 h2 h3 h4 h5 h6 h7; omega
  have d1 : z0 / 256 = z1 := by clear b0 b1 b2 b3 b4 e1 e2 e3 e4 e5 e6; omega
  have a0 : z0 + z1 = (p0 + p1) + 256 * (z1 + z2) := by clear b0 b1 b2 b3 b4 h0 h1 h2 h3 h4 h5 h6 h7; omega
  have a1 : z1 + z2 = (p1 + p2) + 256 * (z2 + z3) := by clear b0 b1 b2 b3 b4 h0 h1 h2 h3 h4 h5 h6 h7; omega
  have d2 : (z0 + z1) / 65536 = z2 + z3 := by
    rw [a0, a1]
    clear b0 b1 b2 b3 b4 e0 e1 e2 e3 e4 e5 e6 a0 a1 d1
    omega
  have l6 : z6 ≤ 4096 := by clear b0 b1 b2 b3 b4 e0 e1 e2 e3 e4 e5 a0 a1 d1 d2; omega
  have l5 : z5 ≤ 1048832 := by clear b0 b1 b2 b3 b4 e0 e1 e2 e3 e4 e6 a0 a1 d1 d2; omega
  have l4 : z4 ≤ 268501248 := by clear b0 b1 b2 b3 b4 e0 e1 e2 e3 e5 e6 a0 a1 d1 d2; omega
  have l3 : z3 ≤ 68736319744 := by clear b0 b1 b2 b3 b4 e0 e1 e2 e4 e5 e6 a0 a1 d1 d2; omega
  have l2 : z2 ≤ 17596497854720 := by clear b0 b1 b2 b3 b4 e0 e1 e3 e4 e5 e6 a0 a1 d1 d2; omega
  have l1 : z1 ≤ 4504703450808576 := by clear b0 b1 b2 b3 b4 e0 e2 e3 e4 e5 e6 a0 a1 d1 d2; omega
  have l0 : z0 < 1153204083407000000 := by clear b0 b1 b2 b3 b4 e1 e2 e3 e4 e5 e6 a0 a1 d1 d2; omega
  refine ⟨?_, by clear b0 b1 b2 b3 b4 a0 a1 d1 d2 e0 e1 e2 e3 e4 e5 e6; omega⟩
  have d3 : (z0 + z1 + (z2 + z3)) / 4294967296 = z4 + z5 + z6 + z7 := by
    rw [b0, b1, b2, b3]
    clear b0 b1 b2 b3 b4 a0 a1 d1 d2 e0 e1 e2 e3 e4 e5 e6 l0 l1 l2 l3 l4 l5 l6
    generalize z4 + z5 + z6 + z7 = u
    omega
  rw [d1, d2, d3, b4, b0]
  clear b0 b1 b2 b3 b4 a0 a1 d1 d2 d3 e0 e1 e2 e3 e4 e5 e6 l0 l1 l2 l3 l4 l5 l6
  generalize z1 + z2 + z3 + z4 = u
  generalize z5 + z6 + z7 = v
  omega
theorem swar_fold (x : Nat) (h : x < 18446744073709551616) :
    ((swar x + swar x / 256) + (swar x + swar x / 256) / 65536 + ((swar x + swar x / 256) + (swar x + swar x / 256) / 65536) / 4294967296) % 128 = Lib.popAux 64 x ∧ swar x < 2305843009213693952 := by
  have hs := pa_sum 8 x (by simpa using h)
  rw [show 8 * 8 = 64 from rfl] at hs
  rw [hs, swar_eq x h]
  have hm : ∀ y : Nat, Lib.popAux 8 (y % 256) ≤ 8 := fun y => (q2_pop ⟨y % 256, Nat.mod_lt _ (by decide)⟩).2
  have h7 : mapB (Lib.popAux 8) 1 (x / 256 / 256 / 256 / 256 / 256 / 256 / 256) = Lib.popAux 8 (x / 256 / 256 / 256 / 256 / 256 / 256 / 256 % 256) := by simp [mapB]
  have := fold8 (mapB (Lib.popAux 8) 8 x) (mapB (Lib.popAux 8) 7 (x / 256)) (mapB (Lib.popAux 8) 6 (x / 256 / 256)) (mapB (Lib.popAux 8) 5 (x / 256 / 256 / 256)) (mapB (Lib.popAux 8) 4 (x / 256 / 256 / 256 / 256))
    (mapB (Lib.popAux 8) 3 (x / 256 / 256 / 256 / 256 / 256)) (mapB (Lib.popAux 8) 2 (x / 256 / 256 / 256 / 256 / 256 / 256)) (mapB (Lib.popAux 8) 1 (x / 256 / 256 / 256 / 256 / 256 / 256 / 256))
    _ _ _ _ _ _ _ (hm x) (hm (x / 256)) (hm (x / 256 / 256)) (hm (x / 256 / 256 / 256)) (hm (x / 256 / 256 / 256 / 256)) (hm (x / 256 / 256 / 256 / 256 / 256)) (hm (x / 256 / 256 / 256 / 256 / 256 / 256)) (by rw [h7]; exact hm _)
    rfl rfl rfl rfl rfl rfl rfl
  refine ⟨this.1.trans ?_, this.2⟩
  rw [h7]
  simp only [sumB, Nat.add_zero, Nat.add_assoc]
end Go.Proofs.YtphhgmeokmemlaaDoor
