/- Bits of 64 counted, those ahead and those behind. -/
import Derived.Test.YtphhgmeokmemlaaDoorV3
import Derived.Test.YtphhgmeokmemlaaDoorQ1
import Derived.Shelf.Spec.TrailingZeros
import Derived.Shelf.Small.Bits
import Derived.Lib.Strings
import Derived.Lib.Slices
import Derived.Lib.Small
import Derived.Lib.Walk
namespace Go.Proofs.YtphhgmeokmemlaaDoor
open Go.RowKit
set_option linter.unusedSimpArgs false
set_option linter.unusedVariables false

theorem i64_and_127 (a : Nat) (ha : a < 9223372036854775808) : bits .and .i64 (a : Int) 127 = ((a % 128 : Nat) : Int) := by
  have h1 : (BitVec.ofInt 64 (a : Int)).toNat = a := by
    rw [BitVec.ofInt_natCast, BitVec.toNat_ofNat]; exact Nat.mod_eq_of_lt (by omega)
  have h2 : (BitVec.ofInt 64 (127 : Int)).toNat = 127 := by decide
  show IntKind.i64.wrap ((BitVec.ofInt 64 (a : Int) &&& BitVec.ofInt 64 (127 : Int)).toNat : Int) = _
  rw [BitVec.toNat_and, h1, h2, show a &&& 127 = a % 128 from Nat.and_two_pow_sub_one_eq_mod a 7]
  exact IntWalk.i64_in _ (by omega)

theorem mapB_half (f : Nat → Nat) (hf : ∀ d, d < 256 → f d < 128) : ∀ n x, mapB f (n + 1) x < 128 * 256 ^ n
  | 0, x => by
    have := hf (x % 256) (Nat.mod_lt _ (by decide))
    simp [mapB]; omega
  | n + 1, x => by
    have h1 := mapB_half f hf n (x / 256)
    have h2 := hf (x % 256) (Nat.mod_lt _ (by decide))
    rw [mapB, Nat.pow_succ]
    omega
theorem q2_half : ∀ d : Fin 256, q2 d.val < 128 := by decide +kernel

set_option maxRecDepth 100000 in
set_option maxHeartbeats 1000000 in
theorem ones_ok (x : Nat) (hx : x < 18446744073709551616) (w : World) : Calls Tryd.prog 16 #[.int .u64 x] w (Ret w (.int .i64 (Lib.popAux 64 x : Nat))) := by
  have hfold := swar_fold x hx
  have hp1 : ∀ d, d < 256 → p1 d < 256 := fun d hd => p1_lt ⟨d, hd⟩
  have s1 := step1 8 x (by simpa using hx)
  rw [show mk 85 8 = 6148914691236517205 by decide +kernel] at s1
  have la := mapB_lt p1 hp1 8 x
  have s2 := step2 8 (mapB p1 8 x) la
  rw [show mk 51 8 = 3689348814741910323 by decide +kernel, mapB_comp p2 p1 hp1] at s2
  have lb : mapB q2 8 x < 128 * 256 ^ 7 := mapB_half q2 (fun d hd => q2_half ⟨d, hd⟩) 7 x
  rw [show (fun d => p2 (p1 d)) = q2 from rfl] at s2
  have hz : swar x = (mapB q2 8 x / 16 + mapB q2 8 x) &&& 1085102592571150095 := by
    unfold swar
    simp only [s1, s2]
  have h1 := bits_and_u64_nat (x / 2) 6148914691236517205 (by omega) (by decide)
  have h2 := bits_and_u64_nat x 6148914691236517205 hx (by decide)
  have h3 : IntKind.u64.wrap (((x / 2 &&& 6148914691236517205 : Nat) : Int) + ((x &&& 6148914691236517205 : Nat) : Int)) = ((mapB p1 8 x : Nat) : Int) := by
    rw [← Int.natCast_add, s1]; exact IntWalk.u64_in _ (by simp at la; omega)
  have h4 := bits_and_u64_nat (mapB p1 8 x / 4) 3689348814741910323 (by simp at la; omega) (by decide)
  have h5 := bits_and_u64_nat (mapB p1 8 x) 3689348814741910323 (by simpa using la) (by decide)
  have h6 : IntKind.u64.wrap (((mapB p1 8 x / 4 &&& 3689348814741910323 : Nat) : Int) + ((mapB p1 8 x &&& 3689348814741910323 : Nat) : Int)) = ((mapB q2 8 x : Nat) : Int) := by
    rw [← Int.natCast_add, s2]; exact IntWalk.u64_in _ (by simp at lb; omega)
  have h7 : IntKind.u64.wrap (((mapB q2 8 x : Nat) : Int) / 16 + ((mapB q2 8 x : Nat) : Int)) = ((mapB q2 8 x / 16 + mapB q2 8 x : Nat) : Int) := by
    rw [IntWalk.u64_in _ (by simp at lb; omega)]; omega
  have h8 := bits_and_u64_nat (mapB q2 8 x / 16 + mapB q2 8 x) 1085102592571150095 (by simp at lb; omega) (by decide)
  rw [← hz] at h8
  rw [Int.natCast_ediv] at h1 h4
  obtain ⟨hf1, hf2⟩ := hfold
  generalize swar x = z at *
  generalize mapB p1 8 x = a at *
  generalize mapB q2 8 x = b at *
  generalize Lib.popAux 64 x = r at *
  have h9 : IntKind.u64.wrap ((z : Int) + (z : Int) / 256) = ((z + z / 256 : Nat) : Int) := by rw [IntWalk.u64_in _ (by omega)]; omega
  have l1 : z + z / 256 < 4611686018427387904 := by omega
  generalize z + z / 256 = y at *
  have h10 : IntKind.u64.wrap ((y : Int) + (y : Int) / 65536) = ((y + y / 65536 : Nat) : Int) := by rw [IntWalk.u64_in _ (by omega)]; omega
  have l2 : y + y / 65536 < 4611756387171565568 := by omega
  generalize y + y / 65536 = u at *
  have h11 : IntKind.u64.wrap ((u : Int) + (u : Int) / 4294967296) = ((u + u / 4294967296 : Nat) : Int) := by rw [IntWalk.u64_in _ (by omega)]; omega
  have l3 : u + u / 4294967296 < 9223372036854775808 := by omega
  generalize u + u / 4294967296 = v at *
  have h12 : IntKind.i64.wrap (v : Int) = (v : Int) := IntWalk.i64_in _ (by omega)
  have h13 := i64_and_127 v l3
  rw [hf1] at h13
  have k1 : bits .and .u64 ((x : Int) / 2) 6148914691236517205 = ((x / 2 &&& 6148914691236517205 : Nat) : Int) := h1
  have k2 : bits .and .u64 (x : Int) 6148914691236517205 = ((x &&& 6148914691236517205 : Nat) : Int) := h2
  have k4 : bits .and .u64 ((a : Int) / 4) 3689348814741910323 = ((a / 4 &&& 3689348814741910323 : Nat) : Int) := h4
  have k5 : bits .and .u64 (a : Int) 3689348814741910323 = ((a &&& 3689348814741910323 : Nat) : Int) := h5
  have k8 : bits .and .u64 ((b / 16 + b : Nat) : Int) 1085102592571150095 = (z : Int) := h8
  generalize (x / 2 &&& 6148914691236517205) = x1 at *
  generalize (x &&& 6148914691236517205) = x2 at *
  generalize (a / 4 &&& 3689348814741910323) = x3 at *
  generalize (a &&& 3689348814741910323) = x4 at *
  generalize (b / 16 + b) = x5 at *
  clear h1 h2 h4 h5 h8 hz s1 s2 la lb hf1 hf2 hp1 l1 l2 l3
  go_enter Tryd.func16, Tryd.ntmps16
  go_wp2_with fail
  go_ret
  exact ⟨rfl, rfl⟩

theorem tab_len (b : Int) (h0 : 0 ≤ b) (h1 : b < 256) (h : b.toNat < Lib.len8tab.size) : wrap64 ((Lib.len8tab[b.toNat]'h).toNat : Int) = (Lib.bitLen b.toNat : Int) := by
  have e := Lib.len8_of b h0 (by omega)
  have l := Lib.bitLen_le8' b h0 (by omega)
  rw [Lib.len8, getElem?_pos Lib.len8tab b.toNat h, Option.getD_some] at e
  rw [e]
  simp only [wrap64]; omega
theorem wrap_small (k : Int) (l : Nat) (h : l ≤ 8) (hk : 0 ≤ k ∧ k ≤ 56) : wrap64 (k + (l : Int)) = ((k.toNat + l : Nat) : Int) := by
  simp only [wrap64]; omega

set_option maxHeartbeats 4000000 in
set_option maxRecDepth 100000 in
theorem len_int (x : Int) (w : World) (h0 : 0 ≤ x) (h1 : x ≤ 18446744073709551615) :
    Calls Tryd.prog 22 #[.int .u64 x] w fun e w' => e = .returned (.int .i64 (Lib.bitLen x.toNat)) ∧ w = w' := by
  have hsz : ((Lib.len8tab.size : Nat) : Int) = 256 := by rw [Lib.len8tab_size]; rfl
  go_enter Tryd.func22, Tryd.ntmps22
  go_wp2
  all_goals (go_ret; refine ⟨congrArg Ending.returned (congrArg (Value.int IntKind.i64) ?_), rfl⟩)
  all_goals first
    | (rw [tab_len (x / 4294967296 / 65536 / 256) (by omega) (by omega)]
       have e : (x / 4294967296 / 65536 / 256).toNat = x.toNat / 72057594037927936 := by omega
       have l := Lib.bitLen_le8' (x / 4294967296 / 65536 / 256) (by omega) (by omega)
       have s := Lib.bitLen_shift56 x.toNat (by omega) (by omega)
       rw [e] at l ⊢
       rw [s]
       exact wrap_small _ _ l (by decide))
    | (rw [tab_len (x / 4294967296 / 65536) (by omega) (by omega)]
       have e : (x / 4294967296 / 65536).toNat = x.toNat / 281474976710656 := by omega
       have l := Lib.bitLen_le8' (x / 4294967296 / 65536) (by omega) (by omega)
       have s := Lib.bitLen_shift48 x.toNat (by omega) (by omega)
       rw [e] at l ⊢
       rw [s]
       exact wrap_small _ _ l (by decide))
    | (rw [tab_len (x / 4294967296 / 256) (by omega) (by omega)]
       have e : (x / 4294967296 / 256).toNat = x.toNat / 1099511627776 := by omega
       have l := Lib.bitLen_le8' (x / 4294967296 / 256) (by omega) (by omega)
       have s := Lib.bitLen_shift40 x.toNat (by omega) (by omega)
       rw [e] at l ⊢
       rw [s]
       exact wrap_small _ _ l (by decide))
    | (rw [tab_len (x / 4294967296) (by omega) (by omega)]
       have e : (x / 4294967296).toNat = x.toNat / 4294967296 := by omega
       have l := Lib.bitLen_le8' (x / 4294967296) (by omega) (by omega)
       have s := Lib.bitLen_shift32 x.toNat (by omega) (by omega)
       rw [e] at l ⊢
       rw [s]
       exact wrap_small _ _ l (by decide))
    | (rw [tab_len (x / 65536 / 256) (by omega) (by omega)]
       have e : (x / 65536 / 256).toNat = x.toNat / 16777216 := by omega
       have l := Lib.bitLen_le8' (x / 65536 / 256) (by omega) (by omega)
       have s := Lib.bitLen_shift24 x.toNat (by omega) (by omega)
       rw [e] at l ⊢
       rw [s]
       exact wrap_small _ _ l (by decide))
    | (rw [tab_len (x / 65536) (by omega) (by omega)]
       have e : (x / 65536).toNat = x.toNat / 65536 := by omega
       have l := Lib.bitLen_le8' (x / 65536) (by omega) (by omega)
       have s := Lib.bitLen_shift16 x.toNat (by omega) (by omega)
       rw [e] at l ⊢
       rw [s]
       exact wrap_small _ _ l (by decide))
    | (rw [tab_len (x / 256) (by omega) (by omega)]
       have e : (x / 256).toNat = x.toNat / 256 := by omega
       have l := Lib.bitLen_le8' (x / 256) (by omega) (by omega)
       have s := Lib.bitLen_shift8 x.toNat (by omega) (by omega)
       rw [e] at l ⊢
       rw [s]
       exact wrap_small _ _ l (by decide))
    | (rw [tab_len x (by omega) (by omega)]
       have l := Lib.bitLen_le8' x (by omega) (by omega)
       have := wrap_small 0 _ l (by decide)
       simpa using this)

theorem bitLen_le64 (x : Nat) (hx : x < 18446744073709551616) : Lib.bitLen x ≤ 64 := Lib.bitLen_le x 64 (by omega) (by simpa using hx)
theorem lead_ok (x : Nat) (hx : x < 18446744073709551616) (w : World) : Calls Tryd.prog 14 #[.int .u64 x] w (Ret w (.int .i64 (64 - (Lib.bitLen x : Int)))) := by
  have LN := Lib.hid (len_int x w (by omega) (by omega))
  rw [Int.toNat_natCast] at LN
  have hl := bitLen_le64 x hx
  generalize Lib.bitLen x = l at *
  have e : IntKind.i64.wrap (64 - (l : Int)) = 64 - (l : Int) := IntWalk.i64_in _ (by omega)
  go_enter Tryd.func14, Tryd.ntmps14
  go_wp2_with fail
  refine LN.out.mono ?_
  rintro e w2 ⟨rfl, rfl⟩
  go_wp2_with fail
  go_ret
  exact ⟨rfl, rfl⟩

/-- The table of the library's in its variable. -/
def Tab (w : World) : Prop := ∀ j, j < Lib.deBruijn64tab.length → w.cell? ⟨0, j, Option.none⟩ = some (.int .u8 (Lib.deBruijn64tab.getD j 0))

theorem tz_core (x k idx : Nat) (w : World) (hx0 : ((x : Int) == 0) = false)
    (key : IntKind.u64.wrap (bits BinOp.and IntKind.u64 (x : Int) (IntKind.u64.wrap (-(x : Int))) * 285870213051353865) / 288230376151711744 = (idx : Int))
    (hi : idx < 64) (hk : k < 64) (hcell : w.cell? ⟨0, idx, Option.none⟩ = some (.int .u8 k)) :
    Calls Tryd.prog 15 #[.int .u64 x] w fun e w' => e = .returned (.int .i64 k) ∧ w = w' := by
  go_enter Tryd.func15, Tryd.ntmps15
  go_wp2_with (simp only [key])
  go_ret
  exact ⟨rfl, rfl⟩
theorem tz_zero (w : World) : Calls Tryd.prog 15 #[.int .u64 0] w fun e w' => e = .returned (.int .i64 64) ∧ w = w' := by
  go_enter Tryd.func15, Tryd.ntmps15
  go_wp2
  go_ret
  exact ⟨rfl, rfl⟩
theorem tz_ok (x : Nat) (hx : x < 18446744073709551616) (w : World) (hT : Tab w) : Calls Tryd.prog 15 #[.int .u64 x] w (Ret w (.int .i64 (Lib.ctz 64 x : Nat))) := by
  by_cases hx0 : x = 0
  · subst hx0
    exact tz_zero w
  · obtain ⟨hlow, hk⟩ := Lib.lowest_bit 64 x hx0 hx
    obtain ⟨hi, htab⟩ := Lib.deBruijn64_at _ hk
    have hcell := hT _ hi
    rw [htab] at hcell
    exact tz_core x _ _ w (by simp; omega) (tz64_key x _ hx hx0 hlow) hi hk hcell
end Go.Proofs.YtphhgmeokmemlaaDoor
