/- Bits counted: the walk. -/
import Derived.Test.YtphhgmeokmemlaaDoorV8
namespace Go.Proofs.YtphhgmeokmemlaaDoor
open Go.RowKit
set_option linter.unusedSimpArgs false
set_option linter.unusedVariables false

set_option maxRecDepth 100000 in
set_option maxHeartbeats 2000000 in
theorem counts32_0 (a b : Nat) (ha : a < 18446744073709551616) (hb : b < 18446744073709551616) (hA : a % 4294967296 = 0) (w : World) (hT : Tab w) :
    Calls Tryd.prog 5 #[.int .i64 32, .int .u64 a, .int .u64 b] w fun e w' => e = .returned (.bool true) ∧ Below w.heap.size w w' := by
  have hpo := pa_and_or 64 (a % 4294967296) (b % 4294967296)
  have AN := b_and32 a b ha hb w
  have OR2 := b_or32 a b ha hb w
  have la : (a % 4294967296) &&& (b % 4294967296) < 4294967296 := Nat.and_lt_two_pow (n := 32) _ (by omega)
  have lo : (a % 4294967296) ||| (b % 4294967296) < 4294967296 := Nat.or_lt_two_pow (n := 32) (by omega) (by omega)
  have P2 := fun w hT => u32_2 ((a % 4294967296) &&& (b % 4294967296)) 0 (by omega) (by decide) w hT
  rw [Nat.mod_eq_of_lt la, uval2] at P2
  have Q2 := fun w hT => u32_2 ((a % 4294967296) ||| (b % 4294967296)) 0 (by omega) (by decide) w hT
  rw [Nat.mod_eq_of_lt lo, uval2] at Q2
  have N2 := fun w hT => u32_2 b 0 hb (by decide) w hT
  rw [uval2] at N2
  have h2 := Lib.hid (fun w hT => u32_2 a 0 ha (by decide) w hT)
  have h0 := Lib.hid (fun w hT => u32_0 a 0 ha (by decide) w hT)
  have h1 := Lib.hid (fun w hT => u32_1 a 0 ha (by decide) w hT)
  have lp := pa_le 64 (b % 4294967296)
  have lq := pa_le 64 ((a % 4294967296) &&& (b % 4294967296))
  have lr := pa_le 64 ((a % 4294967296) ||| (b % 4294967296))

  rw [hA] at AN OR2 hpo h0 h1 h2
  have z0 : uval 0 32 0 = 32 := by decide
  have z1 : uval 1 32 0 = 32 := by decide
  have z2 : uval 2 32 0 = 0 := by decide
  rw [z0] at h0
  rw [z1] at h1
  rw [z2] at h2
  rw [pa_zero] at hpo
  have P2 := Lib.hid P2
  have Q2 := Lib.hid Q2
  have N2 := Lib.hid N2
  have AN := Lib.hid AN
  have OR2 := Lib.hid OR2
  rw [hA] at P2 Q2 lq lr la lo
  generalize Lib.popAux 64 (b % 4294967296) = n at *
  generalize Lib.popAux 64 (0 &&& (b % 4294967296)) = p at *
  generalize Lib.popAux 64 (0 ||| (b % 4294967296)) = q at *
  generalize 0 &&& (b % 4294967296) = c at *
  generalize 0 ||| (b % 4294967296) = d at *

  have e1 : IntKind.u64.wrap ((0 : Int) + (n : Int)) = (p : Int) + (q : Int) := by rw [IntWalk.u64_in _ (by omega)]; omega
  have e1' : IntKind.u64.wrap ((n : Int)) = (p : Int) + (q : Int) := by rw [IntWalk.u64_in _ (by omega)]; omega

  have H2 : Hid (∀ w, Tab w → Calls Tryd.prog 6 #[.int .i64 2, .int .i64 32, .int .u64 a] w (UPost w 0)) := h2
  have H0 : Hid (∀ w, Tab w → Calls Tryd.prog 6 #[.int .i64 0, .int .i64 32, .int .u64 a] w (UPost w 32)) := h0
  have H1 : Hid (∀ w, Tab w → Calls Tryd.prog 6 #[.int .i64 1, .int .i64 32, .int .u64 a] w (UPost w 32)) := h1
  have e5 : IntKind.u64.wrap ((p : Int) + (q : Int)) = (p : Int) + (q : Int) := IntWalk.u64_in _ (by omega)
  clear h2 h0 h1 hpo
  have LR := Lib.hid (lawright_ok 32 w)
  rw [show okBits 32 = true from rfl] at LR
  have HT := Lib.hid hT
  clear hT
  go_enter Tryd.func5, Tryd.ntmps5
  go_wp2_with fail
  refine LR.out.mono ?_
  rintro e w2 ⟨rfl, rfl⟩
  go_wp2_with fail
  refine AN.out.mono ?_
  rintro e w2 ⟨rfl, rfl⟩
  go_wp2_with fail
  refine OR2.out.mono ?_
  rintro e w2 ⟨rfl, rfl⟩
  go_wp2_with fail
  refine (H2.out _ HT.out).mono ?_
  rintro e w1 ⟨rfl, o1, rfl⟩
  have b1 := (Below.refl w.heap.size w).alloc (Nat.le_refl _) o1
  have HT1 := Lib.hid (HT.out.alloc o1)
  go_wp2_with fail
  refine (N2.out _ HT1.out).mono ?_
  rintro e w2 ⟨rfl, o2, rfl⟩
  have b2 := b1.alloc b1.size o2
  have HT2 := Lib.hid (HT1.out.alloc o2)
  go_wp2_with fail
  refine (P2.out _ HT2.out).mono ?_
  rintro e w3 ⟨rfl, o3, rfl⟩
  have b3 := b2.alloc b2.size o3
  have HT3 := Lib.hid (HT2.out.alloc o3)
  go_wp2_with fail
  refine (Q2.out _ HT3.out).mono ?_
  rintro e w4 ⟨rfl, o4, rfl⟩
  have b4 := b3.alloc b3.size o4
  have HT4 := Lib.hid (HT3.out.alloc o4)
  go_wp2_with fail
  refine (H0.out _ HT4.out).mono ?_
  rintro e w5 ⟨rfl, o5, rfl⟩
  have b5 := b4.alloc b4.size o5
  have HT5 := Lib.hid (HT4.out.alloc o5)
  go_wp2_with fail
  refine (H1.out _ HT5.out).mono ?_
  rintro e w6 ⟨rfl, o6, rfl⟩
  have b6 := b5.alloc b5.size o6
  have HT6 := Lib.hid (HT5.out.alloc o6)
  go_wp2_with fail
  refine (awake_ok _).mono ?_
  rintro e w5 ⟨rfl, rfl⟩
  go_wp2_with fail
  go_ret
  exact ⟨rfl, b6⟩

set_option maxRecDepth 100000 in
set_option maxHeartbeats 2000000 in
theorem counts32_1 (a b : Nat) (ha : a < 18446744073709551616) (hb : b < 18446744073709551616) (hA : a % 4294967296 ≠ 0) (w : World) (hT : Tab w) :
    Calls Tryd.prog 5 #[.int .i64 32, .int .u64 a, .int .u64 b] w fun e w' => e = .returned (.bool true) ∧ Below w.heap.size w w' := by
  have hpo := pa_and_or 64 (a % 4294967296) (b % 4294967296)
  have AN := b_and32 a b ha hb w
  have OR2 := b_or32 a b ha hb w
  have la : (a % 4294967296) &&& (b % 4294967296) < 4294967296 := Nat.and_lt_two_pow (n := 32) _ (by omega)
  have lo : (a % 4294967296) ||| (b % 4294967296) < 4294967296 := Nat.or_lt_two_pow (n := 32) (by omega) (by omega)
  have P2 := fun w hT => u32_2 ((a % 4294967296) &&& (b % 4294967296)) 0 (by omega) (by decide) w hT
  rw [Nat.mod_eq_of_lt la, uval2] at P2
  have Q2 := fun w hT => u32_2 ((a % 4294967296) ||| (b % 4294967296)) 0 (by omega) (by decide) w hT
  rw [Nat.mod_eq_of_lt lo, uval2] at Q2
  have N2 := fun w hT => u32_2 b 0 hb (by decide) w hT
  rw [uval2] at N2
  have h2 := Lib.hid (fun w hT => u32_2 a 0 ha (by decide) w hT)
  have h0 := Lib.hid (fun w hT => u32_0 a 0 ha (by decide) w hT)
  have h1 := Lib.hid (fun w hT => u32_1 a 0 ha (by decide) w hT)
  have lp := pa_le 64 (b % 4294967296)
  have lq := pa_le 64 ((a % 4294967296) &&& (b % 4294967296))
  have lr := pa_le 64 ((a % 4294967296) ||| (b % 4294967296))

  have hx : a % 4294967296 < 4294967296 := Nat.mod_lt _ (by decide)
  have hx64 : a % 4294967296 < 18446744073709551616 := by omega
  obtain ⟨g1, g2, g3, g4, g5, g6⟩ := ends (a % 4294967296) hx64 hA
  have gL : Lib.bitLen (a % 4294967296) ≤ 32 := Lib.bitLen_le _ 32 (by decide) (by simpa using hx)
  have z0 : uval 0 32 (a % 4294967296) = 32 - Lib.bitLen (a % 4294967296) := rfl
  have z1 : uval 1 32 (a % 4294967296) = Lib.ctz 64 (a % 4294967296) := by
    show min _ _ = _
    omega
  have z2 : uval 2 32 (a % 4294967296) = Lib.popAux 64 (a % 4294967296) := rfl
  rw [z0] at h0
  rw [z1] at h1
  rw [z2] at h2
  obtain ⟨HI, hHI⟩ : ∃ h, h = 32 - Lib.bitLen (a % 4294967296) := ⟨_, rfl⟩
  rw [← hHI] at h0
  have CA := fun w => cut_ok 32 (a : Int) (by omega) (by omega) w
  rw [cutN32 a ha] at CA
  have P2 := Lib.hid P2
  have Q2 := Lib.hid Q2
  have N2 := Lib.hid N2
  have AN := Lib.hid AN
  have OR2 := Lib.hid OR2

  generalize Lib.popAux 64 (b % 4294967296) = n at *
  generalize Lib.popAux 64 ((a % 4294967296) &&& (b % 4294967296)) = p at *
  generalize Lib.popAux 64 ((a % 4294967296) ||| (b % 4294967296)) = q at *
  generalize (a % 4294967296) &&& (b % 4294967296) = c at *
  generalize (a % 4294967296) ||| (b % 4294967296) = d at *

  generalize Lib.bitLen (a % 4294967296) = L at *
  generalize Lib.ctz 64 (a % 4294967296) = t at *
  generalize Lib.popAux 64 (a % 4294967296) = m at *
  generalize a % 4294967296 = x at *
  have CA2 := Lib.hid CA
  have e1 : IntKind.u64.wrap ((m : Int) + (n : Int)) = (p : Int) + (q : Int) := by rw [IntWalk.u64_in _ (by omega)]; omega
  have e2 : IntKind.u64.wrap ((HI : Int) + (t : Int)) = (HI : Int) + (t : Int) := IntWalk.u64_in _ (by omega)
  have e3 : IntKind.u64.wrap ((HI : Int) + (t : Int) + (m : Int)) = (HI : Int) + (t : Int) + (m : Int) := IntWalk.u64_in _ (by omega)
  have e4 : IntKind.u64.wrap (31 - (HI : Int)) = ((L - 1 : Nat) : Int) := by rw [IntWalk.u64_in _ (by omega)]; omega
  have le : (HI : Int) + (t : Int) + (m : Int) ≤ 32 := by omega
  have m0 : ¬ (m : Int) = 0 := by omega
  have k1 : (x : Int) / 2 ^ (L - 1) = 1 := by rw [shr_cast, g4]; rfl
  have k2 : (x : Int) / 2 ^ t % 2 = 1 := by rw [shr_cast]; omega
  have k3 : IntKind.u64.wrap ((x : Int) / 2 ^ t * 2 ^ t) = (x : Int) := by
    rw [shr_cast, show ((x / 2 ^ t : Nat) : Int) * 2 ^ t = ((x / 2 ^ t * 2 ^ t : Nat) : Int) by rw [Int.natCast_mul, Int.natCast_pow]; rfl, g6]
    exact IntWalk.u64_in _ (by omega)
  have tl : t < 32 := by omega
  have Ll : L - 1 < 32 := by omega
  clear CA g4 g5 g6 hA z0 z1 z2 hHI

  have H2 : Hid (∀ w, Tab w → Calls Tryd.prog 6 #[.int .i64 2, .int .i64 32, .int .u64 a] w (UPost w m)) := h2
  have H0 : Hid (∀ w, Tab w → Calls Tryd.prog 6 #[.int .i64 0, .int .i64 32, .int .u64 a] w (UPost w HI)) := h0
  have H1 : Hid (∀ w, Tab w → Calls Tryd.prog 6 #[.int .i64 1, .int .i64 32, .int .u64 a] w (UPost w t)) := h1
  have e5 : IntKind.u64.wrap ((p : Int) + (q : Int)) = (p : Int) + (q : Int) := IntWalk.u64_in _ (by omega)
  clear h2 h0 h1 hpo
  have LR := Lib.hid (lawright_ok 32 w)
  rw [show okBits 32 = true from rfl] at LR
  have HT := Lib.hid hT
  clear hT
  go_enter Tryd.func5, Tryd.ntmps5
  go_wp2_with fail
  refine LR.out.mono ?_
  rintro e w2 ⟨rfl, rfl⟩
  go_wp2_with fail
  refine AN.out.mono ?_
  rintro e w2 ⟨rfl, rfl⟩
  go_wp2_with fail
  refine OR2.out.mono ?_
  rintro e w2 ⟨rfl, rfl⟩
  go_wp2_with fail
  refine (H2.out _ HT.out).mono ?_
  rintro e w1 ⟨rfl, o1, rfl⟩
  have b1 := (Below.refl w.heap.size w).alloc (Nat.le_refl _) o1
  have HT1 := Lib.hid (HT.out.alloc o1)
  go_wp2_with fail
  refine (N2.out _ HT1.out).mono ?_
  rintro e w2 ⟨rfl, o2, rfl⟩
  have b2 := b1.alloc b1.size o2
  have HT2 := Lib.hid (HT1.out.alloc o2)
  go_wp2_with fail
  refine (P2.out _ HT2.out).mono ?_
  rintro e w3 ⟨rfl, o3, rfl⟩
  have b3 := b2.alloc b2.size o3
  have HT3 := Lib.hid (HT2.out.alloc o3)
  go_wp2_with fail
  refine (Q2.out _ HT3.out).mono ?_
  rintro e w4 ⟨rfl, o4, rfl⟩
  have b4 := b3.alloc b3.size o4
  have HT4 := Lib.hid (HT3.out.alloc o4)
  go_wp2_with fail
  refine (H0.out _ HT4.out).mono ?_
  rintro e w5 ⟨rfl, o5, rfl⟩
  have b5 := b4.alloc b4.size o5
  have HT5 := Lib.hid (HT4.out.alloc o5)
  go_wp2_with fail
  refine (H1.out _ HT5.out).mono ?_
  rintro e w6 ⟨rfl, o6, rfl⟩
  have b6 := b5.alloc b5.size o6
  have HT6 := Lib.hid (HT5.out.alloc o6)
  go_wp2_with fail
  refine (CA2.out _).mono ?_
  rintro e w5 ⟨rfl, rfl⟩
  go_wp2_with fail
  refine (awake_ok _).mono ?_
  rintro e w5 ⟨rfl, rfl⟩
  go_wp2_with fail
  go_ret
  exact ⟨rfl, b6⟩

set_option maxRecDepth 100000 in
set_option maxHeartbeats 2000000 in
theorem counts64_0 (a b : Nat) (ha : a < 18446744073709551616) (hb : b < 18446744073709551616) (hA : a % 18446744073709551616 = 0) (w : World) (hT : Tab w) :
    Calls Tryd.prog 5 #[.int .i64 64, .int .u64 a, .int .u64 b] w fun e w' => e = .returned (.bool true) ∧ Below w.heap.size w w' := by
  have hpo := pa_and_or 64 (a % 18446744073709551616) (b % 18446744073709551616)
  have AN := b_and64 a b ha hb w
  have OR2 := b_or64 a b ha hb w
  have la : (a % 18446744073709551616) &&& (b % 18446744073709551616) < 18446744073709551616 := Nat.and_lt_two_pow (n := 64) _ (by omega)
  have lo : (a % 18446744073709551616) ||| (b % 18446744073709551616) < 18446744073709551616 := Nat.or_lt_two_pow (n := 64) (by omega) (by omega)
  have P2 := fun w hT => u64_2 ((a % 18446744073709551616) &&& (b % 18446744073709551616)) 0 (by omega) (by decide) w hT
  rw [Nat.mod_eq_of_lt la, uval2] at P2
  have Q2 := fun w hT => u64_2 ((a % 18446744073709551616) ||| (b % 18446744073709551616)) 0 (by omega) (by decide) w hT
  rw [Nat.mod_eq_of_lt lo, uval2] at Q2
  have N2 := fun w hT => u64_2 b 0 hb (by decide) w hT
  rw [uval2] at N2
  have h2 := Lib.hid (fun w hT => u64_2 a 0 ha (by decide) w hT)
  have h0 := Lib.hid (fun w hT => u64_0 a 0 ha (by decide) w hT)
  have h1 := Lib.hid (fun w hT => u64_1 a 0 ha (by decide) w hT)
  have lp := pa_le 64 (b % 18446744073709551616)
  have lq := pa_le 64 ((a % 18446744073709551616) &&& (b % 18446744073709551616))
  have lr := pa_le 64 ((a % 18446744073709551616) ||| (b % 18446744073709551616))

  rw [hA] at AN OR2 hpo h0 h1 h2
  have z0 : uval 0 64 0 = 64 := by decide
  have z1 : uval 1 64 0 = 64 := by decide
  have z2 : uval 2 64 0 = 0 := by decide
  rw [z0] at h0
  rw [z1] at h1
  rw [z2] at h2
  rw [pa_zero] at hpo
  have P2 := Lib.hid P2
  have Q2 := Lib.hid Q2
  have N2 := Lib.hid N2
  have AN := Lib.hid AN
  have OR2 := Lib.hid OR2
  rw [hA] at P2 Q2 lq lr la lo
  generalize Lib.popAux 64 (b % 18446744073709551616) = n at *
  generalize Lib.popAux 64 (0 &&& (b % 18446744073709551616)) = p at *
  generalize Lib.popAux 64 (0 ||| (b % 18446744073709551616)) = q at *
  generalize 0 &&& (b % 18446744073709551616) = c at *
  generalize 0 ||| (b % 18446744073709551616) = d at *

  have e1 : IntKind.u64.wrap ((0 : Int) + (n : Int)) = (p : Int) + (q : Int) := by rw [IntWalk.u64_in _ (by omega)]; omega
  have e1' : IntKind.u64.wrap ((n : Int)) = (p : Int) + (q : Int) := by rw [IntWalk.u64_in _ (by omega)]; omega

  have H2 : Hid (∀ w, Tab w → Calls Tryd.prog 6 #[.int .i64 2, .int .i64 64, .int .u64 a] w (UPost w 0)) := h2
  have H0 : Hid (∀ w, Tab w → Calls Tryd.prog 6 #[.int .i64 0, .int .i64 64, .int .u64 a] w (UPost w 64)) := h0
  have H1 : Hid (∀ w, Tab w → Calls Tryd.prog 6 #[.int .i64 1, .int .i64 64, .int .u64 a] w (UPost w 64)) := h1
  have e5 : IntKind.u64.wrap ((p : Int) + (q : Int)) = (p : Int) + (q : Int) := IntWalk.u64_in _ (by omega)
  clear h2 h0 h1 hpo
  have LR := Lib.hid (lawright_ok 64 w)
  rw [show okBits 64 = true from rfl] at LR
  have HT := Lib.hid hT
  clear hT
  go_enter Tryd.func5, Tryd.ntmps5
  go_wp2_with fail
  refine LR.out.mono ?_
  rintro e w2 ⟨rfl, rfl⟩
  go_wp2_with fail
  refine AN.out.mono ?_
  rintro e w2 ⟨rfl, rfl⟩
  go_wp2_with fail
  refine OR2.out.mono ?_
  rintro e w2 ⟨rfl, rfl⟩
  go_wp2_with fail
  refine (H2.out _ HT.out).mono ?_
  rintro e w1 ⟨rfl, o1, rfl⟩
  have b1 := (Below.refl w.heap.size w).alloc (Nat.le_refl _) o1
  have HT1 := Lib.hid (HT.out.alloc o1)
  go_wp2_with fail
  refine (N2.out _ HT1.out).mono ?_
  rintro e w2 ⟨rfl, o2, rfl⟩
  have b2 := b1.alloc b1.size o2
  have HT2 := Lib.hid (HT1.out.alloc o2)
  go_wp2_with fail
  refine (P2.out _ HT2.out).mono ?_
  rintro e w3 ⟨rfl, o3, rfl⟩
  have b3 := b2.alloc b2.size o3
  have HT3 := Lib.hid (HT2.out.alloc o3)
  go_wp2_with fail
  refine (Q2.out _ HT3.out).mono ?_
  rintro e w4 ⟨rfl, o4, rfl⟩
  have b4 := b3.alloc b3.size o4
  have HT4 := Lib.hid (HT3.out.alloc o4)
  go_wp2_with fail
  refine (H0.out _ HT4.out).mono ?_
  rintro e w5 ⟨rfl, o5, rfl⟩
  have b5 := b4.alloc b4.size o5
  have HT5 := Lib.hid (HT4.out.alloc o5)
  go_wp2_with fail
  refine (H1.out _ HT5.out).mono ?_
  rintro e w6 ⟨rfl, o6, rfl⟩
  have b6 := b5.alloc b5.size o6
  have HT6 := Lib.hid (HT5.out.alloc o6)
  go_wp2_with fail
  refine (awake_ok _).mono ?_
  rintro e w5 ⟨rfl, rfl⟩
  go_wp2_with fail
  go_ret
  exact ⟨rfl, b6⟩

set_option maxRecDepth 100000 in
set_option maxHeartbeats 2000000 in
theorem counts64_1 (a b : Nat) (ha : a < 18446744073709551616) (hb : b < 18446744073709551616) (hA : a % 18446744073709551616 ≠ 0) (w : World) (hT : Tab w) :
    Calls Tryd.prog 5 #[.int .i64 64, .int .u64 a, .int .u64 b] w fun e w' => e = .returned (.bool true) ∧ Below w.heap.size w w' := by
  have hpo := pa_and_or 64 (a % 18446744073709551616) (b % 18446744073709551616)
  have AN := b_and64 a b ha hb w
  have OR2 := b_or64 a b ha hb w
  have la : (a % 18446744073709551616) &&& (b % 18446744073709551616) < 18446744073709551616 := Nat.and_lt_two_pow (n := 64) _ (by omega)
  have lo : (a % 18446744073709551616) ||| (b % 18446744073709551616) < 18446744073709551616 := Nat.or_lt_two_pow (n := 64) (by omega) (by omega)
  have P2 := fun w hT => u64_2 ((a % 18446744073709551616) &&& (b % 18446744073709551616)) 0 (by omega) (by decide) w hT
  rw [Nat.mod_eq_of_lt la, uval2] at P2
  have Q2 := fun w hT => u64_2 ((a % 18446744073709551616) ||| (b % 18446744073709551616)) 0 (by omega) (by decide) w hT
  rw [Nat.mod_eq_of_lt lo, uval2] at Q2
  have N2 := fun w hT => u64_2 b 0 hb (by decide) w hT
  rw [uval2] at N2
  have h2 := Lib.hid (fun w hT => u64_2 a 0 ha (by decide) w hT)
  have h0 := Lib.hid (fun w hT => u64_0 a 0 ha (by decide) w hT)
  have h1 := Lib.hid (fun w hT => u64_1 a 0 ha (by decide) w hT)
  have lp := pa_le 64 (b % 18446744073709551616)
  have lq := pa_le 64 ((a % 18446744073709551616) &&& (b % 18446744073709551616))
  have lr := pa_le 64 ((a % 18446744073709551616) ||| (b % 18446744073709551616))

  have hx : a % 18446744073709551616 < 18446744073709551616 := Nat.mod_lt _ (by decide)
  have hx64 : a % 18446744073709551616 < 18446744073709551616 := by omega
  obtain ⟨g1, g2, g3, g4, g5, g6⟩ := ends (a % 18446744073709551616) hx64 hA
  have gL : Lib.bitLen (a % 18446744073709551616) ≤ 64 := Lib.bitLen_le _ 64 (by decide) (by simpa using hx)
  have z0 : uval 0 64 (a % 18446744073709551616) = 64 - Lib.bitLen (a % 18446744073709551616) := rfl
  have z1 : uval 1 64 (a % 18446744073709551616) = Lib.ctz 64 (a % 18446744073709551616) := by
    show min _ _ = _
    omega
  have z2 : uval 2 64 (a % 18446744073709551616) = Lib.popAux 64 (a % 18446744073709551616) := rfl
  rw [z0] at h0
  rw [z1] at h1
  rw [z2] at h2
  obtain ⟨HI, hHI⟩ : ∃ h, h = 64 - Lib.bitLen (a % 18446744073709551616) := ⟨_, rfl⟩
  rw [← hHI] at h0
  have CA := fun w => cut_ok 64 (a : Int) (by omega) (by omega) w
  rw [cutN64 a ha] at CA
  have P2 := Lib.hid P2
  have Q2 := Lib.hid Q2
  have N2 := Lib.hid N2
  have AN := Lib.hid AN
  have OR2 := Lib.hid OR2

  generalize Lib.popAux 64 (b % 18446744073709551616) = n at *
  generalize Lib.popAux 64 ((a % 18446744073709551616) &&& (b % 18446744073709551616)) = p at *
  generalize Lib.popAux 64 ((a % 18446744073709551616) ||| (b % 18446744073709551616)) = q at *
  generalize (a % 18446744073709551616) &&& (b % 18446744073709551616) = c at *
  generalize (a % 18446744073709551616) ||| (b % 18446744073709551616) = d at *

  generalize Lib.bitLen (a % 18446744073709551616) = L at *
  generalize Lib.ctz 64 (a % 18446744073709551616) = t at *
  generalize Lib.popAux 64 (a % 18446744073709551616) = m at *
  generalize a % 18446744073709551616 = x at *
  have CA2 := Lib.hid CA
  have e1 : IntKind.u64.wrap ((m : Int) + (n : Int)) = (p : Int) + (q : Int) := by rw [IntWalk.u64_in _ (by omega)]; omega
  have e2 : IntKind.u64.wrap ((HI : Int) + (t : Int)) = (HI : Int) + (t : Int) := IntWalk.u64_in _ (by omega)
  have e3 : IntKind.u64.wrap ((HI : Int) + (t : Int) + (m : Int)) = (HI : Int) + (t : Int) + (m : Int) := IntWalk.u64_in _ (by omega)
  have e4 : IntKind.u64.wrap (63 - (HI : Int)) = ((L - 1 : Nat) : Int) := by rw [IntWalk.u64_in _ (by omega)]; omega
  have le : (HI : Int) + (t : Int) + (m : Int) ≤ 64 := by omega
  have m0 : ¬ (m : Int) = 0 := by omega
  have k1 : (x : Int) / 2 ^ (L - 1) = 1 := by rw [shr_cast, g4]; rfl
  have k2 : (x : Int) / 2 ^ t % 2 = 1 := by rw [shr_cast]; omega
  have k3 : IntKind.u64.wrap ((x : Int) / 2 ^ t * 2 ^ t) = (x : Int) := by
    rw [shr_cast, show ((x / 2 ^ t : Nat) : Int) * 2 ^ t = ((x / 2 ^ t * 2 ^ t : Nat) : Int) by rw [Int.natCast_mul, Int.natCast_pow]; rfl, g6]
    exact IntWalk.u64_in _ (by omega)
  have tl : t < 64 := by omega
  have Ll : L - 1 < 64 := by omega
  clear CA g4 g5 g6 hA z0 z1 z2 hHI

  have H2 : Hid (∀ w, Tab w → Calls Tryd.prog 6 #[.int .i64 2, .int .i64 64, .int .u64 a] w (UPost w m)) := h2
  have H0 : Hid (∀ w, Tab w → Calls Tryd.prog 6 #[.int .i64 0, .int .i64 64, .int .u64 a] w (UPost w HI)) := h0
  have H1 : Hid (∀ w, Tab w → Calls Tryd.prog 6 #[.int .i64 1, .int .i64 64, .int .u64 a] w (UPost w t)) := h1
  have e5 : IntKind.u64.wrap ((p : Int) + (q : Int)) = (p : Int) + (q : Int) := IntWalk.u64_in _ (by omega)
  clear h2 h0 h1 hpo
  have LR := Lib.hid (lawright_ok 64 w)
  rw [show okBits 64 = true from rfl] at LR
  have HT := Lib.hid hT
  clear hT
  go_enter Tryd.func5, Tryd.ntmps5
  go_wp2_with fail
  refine LR.out.mono ?_
  rintro e w2 ⟨rfl, rfl⟩
  go_wp2_with fail
  refine AN.out.mono ?_
  rintro e w2 ⟨rfl, rfl⟩
  go_wp2_with fail
  refine OR2.out.mono ?_
  rintro e w2 ⟨rfl, rfl⟩
  go_wp2_with fail
  refine (H2.out _ HT.out).mono ?_
  rintro e w1 ⟨rfl, o1, rfl⟩
  have b1 := (Below.refl w.heap.size w).alloc (Nat.le_refl _) o1
  have HT1 := Lib.hid (HT.out.alloc o1)
  go_wp2_with fail
  refine (N2.out _ HT1.out).mono ?_
  rintro e w2 ⟨rfl, o2, rfl⟩
  have b2 := b1.alloc b1.size o2
  have HT2 := Lib.hid (HT1.out.alloc o2)
  go_wp2_with fail
  refine (P2.out _ HT2.out).mono ?_
  rintro e w3 ⟨rfl, o3, rfl⟩
  have b3 := b2.alloc b2.size o3
  have HT3 := Lib.hid (HT2.out.alloc o3)
  go_wp2_with fail
  refine (Q2.out _ HT3.out).mono ?_
  rintro e w4 ⟨rfl, o4, rfl⟩
  have b4 := b3.alloc b3.size o4
  have HT4 := Lib.hid (HT3.out.alloc o4)
  go_wp2_with fail
  refine (H0.out _ HT4.out).mono ?_
  rintro e w5 ⟨rfl, o5, rfl⟩
  have b5 := b4.alloc b4.size o5
  have HT5 := Lib.hid (HT4.out.alloc o5)
  go_wp2_with fail
  refine (H1.out _ HT5.out).mono ?_
  rintro e w6 ⟨rfl, o6, rfl⟩
  have b6 := b5.alloc b5.size o6
  have HT6 := Lib.hid (HT5.out.alloc o6)
  go_wp2_with fail
  refine (CA2.out _).mono ?_
  rintro e w5 ⟨rfl, rfl⟩
  go_wp2_with fail
  refine (awake_ok _).mono ?_
  rintro e w5 ⟨rfl, rfl⟩
  go_wp2_with fail
  go_ret
  exact ⟨rfl, b6⟩

theorem counts_walk (n a b : Int) (w0 : (Lit.int .i64 n).wf = true) (w1 : (Lit.int .u64 a).wf = true) (w2 : (Lit.int .u64 b).wf = true) (w : World) (hT : Tab w) :
    Calls Tryd.prog 5 #[.int .i64 n, .int .u64 a, .int .u64 b] w fun e w' => e = .returned (.bool true) ∧ Below w.heap.size w w' := by
  obtain ⟨a0, a1⟩ := u64_range w1
  obtain ⟨b0, b1⟩ := u64_range w2
  obtain ⟨a, rfl⟩ := Int.eq_ofNat_of_zero_le a0
  obtain ⟨b, rfl⟩ := Int.eq_ofNat_of_zero_le b0
  cases hn : okBits n with
  | true =>
    have : n = 32 ∨ n = 64 := by simpa [okBits] using hn
    rcases this with rfl | rfl
    · by_cases h : a % 4294967296 = 0
      · exact counts32_0 a b (by omega) (by omega) h w hT
      · exact counts32_1 a b (by omega) (by omega) h w hT
    · by_cases h : a % 18446744073709551616 = 0
      · exact counts64_0 a b (by omega) (by omega) h w hT
      · exact counts64_1 a b (by omega) (by omega) h w hT
  | false =>
    have LR := Lib.hid (lawright_ok n w)
    rw [hn] at LR
    clear hn
    go_enter Tryd.func5, Tryd.ntmps5
    go_wp2_with fail
    refine LR.out.mono ?_
    rintro e w2 ⟨rfl, rfl⟩
    go_wp2_with fail
    refine (awake_ok _).mono ?_
    rintro e w5 ⟨rfl, rfl⟩
    go_wp2_with fail
    go_ret
    exact ⟨rfl, Below.refl _ _⟩
end Go.Proofs.YtphhgmeokmemlaaDoor
