/- Words turned and shifted: the walk. -/
import Derived.Test.YtphhgmeokmemlaaDoorV6
namespace Go.Proofs.YtphhgmeokmemlaaDoor
open Go.RowKit
set_option linter.unusedSimpArgs false
set_option linter.unusedVariables false

theorem uval2 (N x : Nat) : uval 2 N x = Lib.popAux 64 x := rfl

set_option maxRecDepth 100000 in
set_option maxHeartbeats 2000000 in
theorem turns32 (a k : Nat) (ha : a < 18446744073709551616) (hk : k < 18446744073709551616) (w : World) (hT : Tab w) :
    Calls Tryd.prog 4 #[.int .i64 32, .int .u64 a, .int .u64 k] w fun e w' => e = .returned (.bool true) ∧ Below w.heap.size w w' := by
  have hs : k % 32 < 32 := Nat.mod_lt _ (by decide)
  have hx : a % 4294967296 < 4294967296 := Nat.mod_lt _ (by decide)
  have rl := rot32_lt (a % 4294967296) (k % 32) hx
  have er : rot 32 (a % 4294967296) (k % 32) = a % 4294967296 / 2 ^ (32 - k % 32) + 2 ^ (k % 32) * (a % 4294967296 % 2 ^ (32 - k % 32)) := rot_arith 32 _ _ hx (by omega)
  have RL := Lib.hid (b_rotl32 a k ha hk w)
  have RR := b_rotr32 (rot 32 (a % 4294967296) (k % 32)) k (by omega) hk w
  rw [Nat.mod_eq_of_lt rl] at RR
  have eb : rot 32 (rot 32 (a % 4294967296) (k % 32)) ((32 - k % 32) % 32) = a % 4294967296 := by
    have h1 := rot_arith 32 (rot 32 (a % 4294967296) (k % 32)) ((32 - k % 32) % 32) (by simpa using rl) (by omega)
    have h2 := turn_back 32 (a % 4294967296) (k % 32) (by simpa using hx) hs
    rw [er] at h1
    rw [er]
    exact h1.trans h2
  rw [eb] at RR
  have RR2 := Lib.hid RR
  have hz : (a % 4294967296) * 2 ^ (k % 32) % 4294967296 < 4294967296 := Nat.mod_lt _ (by decide)
  have SL := Lib.hid (b_shl32 a k ha hk w)
  have SR := b_shru32 ((a % 4294967296) * 2 ^ (k % 32) % 4294967296) k (by omega) hk w
  rw [Nat.mod_eq_of_lt hz] at SR
  have SR2 := Lib.hid SR
  have hw : (a % 4294967296) * 2 ^ (k % 32) % 4294967296 / 2 ^ (k % 32) < 4294967296 := Nat.lt_of_le_of_lt (Nat.div_le_self _ _) hz
  have hp : Lib.popAux 64 (rot 32 (a % 4294967296) (k % 32)) = Lib.popAux 64 (a % 4294967296) := by
    rw [er]; exact pa_turn 32 _ _ hx (by omega) (by decide)
  have U1 := fun w hT => u32_2 (rot 32 (a % 4294967296) (k % 32)) k (by omega) hk w hT
  rw [Nat.mod_eq_of_lt rl, uval2, hp] at U1
  have U11 := Lib.hid U1
  have U2 := Lib.hid (fun w hT => u32_2 a k ha hk w hT)
  have XR := fun w => b_xor32 ((a % 4294967296) * 2 ^ (k % 32) % 4294967296 / 2 ^ (k % 32)) a (by omega) ha w
  rw [Nat.mod_eq_of_lt hw] at XR
  have hu : (a % 4294967296) * 2 ^ (k % 32) % 4294967296 / 2 ^ (k % 32) ^^^ a % 4294967296 < 4294967296 := Nat.xor_lt_two_pow (n := 32) hw hx
  have S2 := fun w => b_shl32 ((a % 4294967296) * 2 ^ (k % 32) % 4294967296 / 2 ^ (k % 32) ^^^ a % 4294967296) k (by omega) hk w
  have h0 : ((a % 4294967296) * 2 ^ (k % 32) % 4294967296 / 2 ^ (k % 32) ^^^ a % 4294967296) * 2 ^ (k % 32) % 4294967296 = 0 := shift_lost 32 (a % 4294967296) (k % 32) (by omega)
  rw [Nat.mod_eq_of_lt hu, h0] at S2
  have XR2 := Lib.hid XR
  have S22 := Lib.hid S2
  have CA := fun w => cut_ok 32 (a : Int) (by omega) (by omega) w
  rw [cutN32 a ha] at CA
  have CA2 := Lib.hid CA
  have hP := pa_le 64 (a % 4294967296)
  have U22 : Hid (∀ w, Tab w → Calls Tryd.prog 6 #[.int .i64 2, .int .i64 32, .int .u64 a] w (UPost w (Lib.popAux 64 (a % 4294967296)))) := U2
  clear RR SR U1 U2 XR S2 CA h0 er eb hp
  generalize rot 32 (a % 4294967296) (k % 32) = r at *
  generalize (a % 4294967296) * 2 ^ (k % 32) % 4294967296 = z at *
  generalize z / 2 ^ (k % 32) = v at *
  generalize v ^^^ a % 4294967296 = u at *
  generalize Lib.popAux 64 (a % 4294967296) = P at *
  generalize a % 4294967296 = x at *
  have LR := Lib.hid (lawright_ok 32 w)
  rw [show okBits 32 = true from rfl] at LR
  have HT := Lib.hid hT
  clear hT
  go_enter Tryd.func4, Tryd.ntmps4
  go_wp2_with fail
  refine LR.out.mono ?_
  rintro e w2 ⟨rfl, rfl⟩
  go_wp2_with fail
  refine RL.out.mono ?_
  rintro e w2 ⟨rfl, rfl⟩
  go_wp2_with fail
  refine RR2.out.mono ?_
  rintro e w2 ⟨rfl, rfl⟩
  go_wp2_with fail
  refine SL.out.mono ?_
  rintro e w2 ⟨rfl, rfl⟩
  go_wp2_with fail
  refine SR2.out.mono ?_
  rintro e w2 ⟨rfl, rfl⟩
  go_wp2_with fail
  refine (U11.out _ HT.out).mono ?_
  rintro e w3 ⟨rfl, o3, rfl⟩
  have b3 := (Below.refl w.heap.size w).alloc (Nat.le_refl _) o3
  have HT3 := Lib.hid (HT.out.alloc o3)
  go_wp2_with fail
  refine (U22.out _ HT3.out).mono ?_
  rintro e w4 ⟨rfl, o4, rfl⟩
  have b4 := b3.alloc b3.size o4
  go_wp2_with fail
  refine (XR2.out _).mono ?_
  rintro e w5 ⟨rfl, rfl⟩
  go_wp2_with fail
  refine (S22.out _).mono ?_
  rintro e w5 ⟨rfl, rfl⟩
  go_wp2_with fail
  refine (CA2.out _).mono ?_
  rintro e w5 ⟨rfl, rfl⟩
  go_wp2_with fail
  refine (awake_ok _).mono ?_
  rintro e w5 ⟨rfl, rfl⟩
  go_wp2_with fail
  go_ret
  exact ⟨rfl, b4⟩

set_option maxRecDepth 100000 in
set_option maxHeartbeats 2000000 in
theorem turns64 (a k : Nat) (ha : a < 18446744073709551616) (hk : k < 18446744073709551616) (w : World) (hT : Tab w) :
    Calls Tryd.prog 4 #[.int .i64 64, .int .u64 a, .int .u64 k] w fun e w' => e = .returned (.bool true) ∧ Below w.heap.size w w' := by
  have hs : k % 64 < 64 := Nat.mod_lt _ (by decide)
  have hx : a % 18446744073709551616 < 18446744073709551616 := Nat.mod_lt _ (by decide)
  have rl := rot64_lt (a % 18446744073709551616) (k % 64) hx
  have er : rot 64 (a % 18446744073709551616) (k % 64) = a % 18446744073709551616 / 2 ^ (64 - k % 64) + 2 ^ (k % 64) * (a % 18446744073709551616 % 2 ^ (64 - k % 64)) := rot_arith 64 _ _ hx (by omega)
  have RL := Lib.hid (b_rotl64 a k ha hk w)
  have RR := b_rotr64 (rot 64 (a % 18446744073709551616) (k % 64)) k (by omega) hk w
  rw [Nat.mod_eq_of_lt rl] at RR
  have eb : rot 64 (rot 64 (a % 18446744073709551616) (k % 64)) ((64 - k % 64) % 64) = a % 18446744073709551616 := by
    have h1 := rot_arith 64 (rot 64 (a % 18446744073709551616) (k % 64)) ((64 - k % 64) % 64) (by simpa using rl) (by omega)
    have h2 := turn_back 64 (a % 18446744073709551616) (k % 64) (by simpa using hx) hs
    rw [er] at h1
    rw [er]
    exact h1.trans h2
  rw [eb] at RR
  have RR2 := Lib.hid RR
  have hz : (a % 18446744073709551616) * 2 ^ (k % 64) % 18446744073709551616 < 18446744073709551616 := Nat.mod_lt _ (by decide)
  have SL := Lib.hid (b_shl64 a k ha hk w)
  have SR := b_shru64 ((a % 18446744073709551616) * 2 ^ (k % 64) % 18446744073709551616) k (by omega) hk w
  rw [Nat.mod_eq_of_lt hz] at SR
  have SR2 := Lib.hid SR
  have hw : (a % 18446744073709551616) * 2 ^ (k % 64) % 18446744073709551616 / 2 ^ (k % 64) < 18446744073709551616 := Nat.lt_of_le_of_lt (Nat.div_le_self _ _) hz
  have hp : Lib.popAux 64 (rot 64 (a % 18446744073709551616) (k % 64)) = Lib.popAux 64 (a % 18446744073709551616) := by
    rw [er]; exact pa_turn 64 _ _ hx (by omega) (by decide)
  have U1 := fun w hT => u64_2 (rot 64 (a % 18446744073709551616) (k % 64)) k (by omega) hk w hT
  rw [Nat.mod_eq_of_lt rl, uval2, hp] at U1
  have U11 := Lib.hid U1
  have U2 := Lib.hid (fun w hT => u64_2 a k ha hk w hT)
  have XR := fun w => b_xor64 ((a % 18446744073709551616) * 2 ^ (k % 64) % 18446744073709551616 / 2 ^ (k % 64)) a (by omega) ha w
  rw [Nat.mod_eq_of_lt hw] at XR
  have hu : (a % 18446744073709551616) * 2 ^ (k % 64) % 18446744073709551616 / 2 ^ (k % 64) ^^^ a % 18446744073709551616 < 18446744073709551616 := Nat.xor_lt_two_pow (n := 64) hw hx
  have S2 := fun w => b_shl64 ((a % 18446744073709551616) * 2 ^ (k % 64) % 18446744073709551616 / 2 ^ (k % 64) ^^^ a % 18446744073709551616) k (by omega) hk w
  have h0 : ((a % 18446744073709551616) * 2 ^ (k % 64) % 18446744073709551616 / 2 ^ (k % 64) ^^^ a % 18446744073709551616) * 2 ^ (k % 64) % 18446744073709551616 = 0 := shift_lost 64 (a % 18446744073709551616) (k % 64) (by omega)
  rw [Nat.mod_eq_of_lt hu, h0] at S2
  have XR2 := Lib.hid XR
  have S22 := Lib.hid S2
  have CA := fun w => cut_ok 64 (a : Int) (by omega) (by omega) w
  rw [cutN64 a ha] at CA
  have CA2 := Lib.hid CA
  have hP := pa_le 64 (a % 18446744073709551616)
  have U22 : Hid (∀ w, Tab w → Calls Tryd.prog 6 #[.int .i64 2, .int .i64 64, .int .u64 a] w (UPost w (Lib.popAux 64 (a % 18446744073709551616)))) := U2
  clear RR SR U1 U2 XR S2 CA h0 er eb hp
  generalize rot 64 (a % 18446744073709551616) (k % 64) = r at *
  generalize (a % 18446744073709551616) * 2 ^ (k % 64) % 18446744073709551616 = z at *
  generalize z / 2 ^ (k % 64) = v at *
  generalize v ^^^ a % 18446744073709551616 = u at *
  generalize Lib.popAux 64 (a % 18446744073709551616) = P at *
  generalize a % 18446744073709551616 = x at *
  have LR := Lib.hid (lawright_ok 64 w)
  rw [show okBits 64 = true from rfl] at LR
  have HT := Lib.hid hT
  clear hT
  go_enter Tryd.func4, Tryd.ntmps4
  go_wp2_with fail
  refine LR.out.mono ?_
  rintro e w2 ⟨rfl, rfl⟩
  go_wp2_with fail
  refine RL.out.mono ?_
  rintro e w2 ⟨rfl, rfl⟩
  go_wp2_with fail
  refine RR2.out.mono ?_
  rintro e w2 ⟨rfl, rfl⟩
  go_wp2_with fail
  refine SL.out.mono ?_
  rintro e w2 ⟨rfl, rfl⟩
  go_wp2_with fail
  refine SR2.out.mono ?_
  rintro e w2 ⟨rfl, rfl⟩
  go_wp2_with fail
  refine (U11.out _ HT.out).mono ?_
  rintro e w3 ⟨rfl, o3, rfl⟩
  have b3 := (Below.refl w.heap.size w).alloc (Nat.le_refl _) o3
  have HT3 := Lib.hid (HT.out.alloc o3)
  go_wp2_with fail
  refine (U22.out _ HT3.out).mono ?_
  rintro e w4 ⟨rfl, o4, rfl⟩
  have b4 := b3.alloc b3.size o4
  go_wp2_with fail
  refine (XR2.out _).mono ?_
  rintro e w5 ⟨rfl, rfl⟩
  go_wp2_with fail
  refine (S22.out _).mono ?_
  rintro e w5 ⟨rfl, rfl⟩
  go_wp2_with fail
  refine (CA2.out _).mono ?_
  rintro e w5 ⟨rfl, rfl⟩
  go_wp2_with fail
  refine (awake_ok _).mono ?_
  rintro e w5 ⟨rfl, rfl⟩
  go_wp2_with fail
  go_ret
  exact ⟨rfl, b4⟩

theorem turns_walk (n a b : Int) (w0 : (Lit.int .i64 n).wf = true) (w1 : (Lit.int .u64 a).wf = true) (w2 : (Lit.int .u64 b).wf = true) (w : World) (hT : Tab w) :
    Calls Tryd.prog 4 #[.int .i64 n, .int .u64 a, .int .u64 b] w fun e w' => e = .returned (.bool true) ∧ Below w.heap.size w w' := by
  obtain ⟨a0, a1⟩ := u64_range w1
  obtain ⟨b0, b1⟩ := u64_range w2
  obtain ⟨a, rfl⟩ := Int.eq_ofNat_of_zero_le a0
  obtain ⟨b, rfl⟩ := Int.eq_ofNat_of_zero_le b0
  cases hn : okBits n with
  | true =>
    have : n = 32 ∨ n = 64 := by simpa [okBits] using hn
    rcases this with rfl | rfl
    · exact turns32 a b (by omega) (by omega) w hT
    · exact turns64 a b (by omega) (by omega) w hT
  | false =>
    have LR := Lib.hid (lawright_ok n w)
    rw [hn] at LR
    clear hn
    go_enter Tryd.func4, Tryd.ntmps4
    go_wp2_with fail
    refine LR.out.mono ?_
    rintro e w2 ⟨rfl, rfl⟩
    go_wp2_with fail
    refine (awake_ok _).mono ?_
    rintro e w5 ⟨rfl, rfl⟩
    go_wp2_with fail
    go_ret
    exact ⟨rfl, Below.refl _ _⟩
end Go.Proofs.YtphhgmeokmemlaaDoor
