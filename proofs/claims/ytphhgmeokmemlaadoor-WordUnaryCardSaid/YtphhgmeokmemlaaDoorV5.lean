/- A unary op of one word. -/
import Derived.Test.YtphhgmeokmemlaaDoorV4
namespace Go.Proofs.YtphhgmeokmemlaaDoor
open Go.RowKit
set_option linter.unusedSimpArgs false
set_option linter.unusedVariables false

theorem Tab.lt {w : World} (h : Tab w) : 0 < w.heap.size := World.block_lt_of_cell? w _ (h 0 (by decide))
theorem Tab.below {w w' : World} {B : Nat} (h : Tab w) (b : Below B w w') (hB : 0 < B) : Tab w' := fun j hj => by
  rw [b.cell (p := ⟨0, j, Option.none⟩) hB]; exact h j hj
theorem Tab.alloc {w : World} (h : Tab w) (o : Obj) : Tab (w.alloc o) := h.below ((Below.refl w.heap.size w).alloc (Nat.le_refl _) o) h.lt

/-- The four counts of a word of N bits. -/
def uval (op N x : Nat) : Nat :=
  match op with
  | 0 => N - Lib.bitLen x
  | 1 => min (Lib.ctz 64 x) N
  | 2 => Lib.popAux 64 x
  | _ => if x = 0 then 1 else 0
theorem ctz_le (x : Nat) (hx : x < 18446744073709551616) : Lib.ctz 64 x ≤ 64 := by
  unfold Lib.ctz
  split
  · exact Nat.le_refl _
  · rename_i h
    obtain ⟨m, _, hk⟩ := Lib.ctzFrom_spec 64 x (by omega) (by simpa using hx)
    omega
theorem pa_le : ∀ f x, Lib.popAux f x ≤ f
  | 0, _ => Nat.le_refl _
  | f + 1, x => by
    have := pa_le f (x / 2)
    simp only [Lib.popAux]; omega
def UPost (w : World) (v : Nat) (e : Ending) (w' : World) : Prop := e = .returned (.tuple #[.int .u64 (v : Int), .int .i64 0]) ∧ ∃ o, w' = w.alloc o

set_option maxHeartbeats 1000000 in
theorem un32_0 (a x : Nat) (ha : a < 18446744073709551616) (hx : cut 32 (a : Int) = (x : Int)) (hxl : x < 4294967296) (w : World) (hT : Tab w) :
    Calls Tryd.prog 6 #[.int .i64 0, .int .i64 32, .int .u64 a] w (UPost w (uval 0 32 x)) := by
  have R := Lib.hid (right_ok 32 w)
  rw [show okBits 32 = true from rfl] at R
  have CA := cut_ok 32 (a : Int) (by omega) (by omega) w
  rw [hx] at CA
  have CA2 := Lib.hid CA
  have hx64 : x < 18446744073709551616 := by omega
  have LZ := Lib.hid (lead_ok x hx64 w)
  have TZ := Lib.hid (tz_ok x hx64 w hT)
  have OC := Lib.hid (ones_ok x hx64 w)
  have IS := Lib.hid (is_ok ((x : Int) == 0) w)
  have hL : Lib.bitLen x ≤ 32 := Lib.bitLen_le x 32 (by decide) (by simpa using hxl)
  have hC := ctz_le x hx64
  have hP := pa_le 64 x
  have hU : uval 0 32 x = uval 0 32 x := rfl
  have hone : one ((x : Int) == 0) = ((if x = 0 then 1 else 0 : Nat) : Int) := by
    by_cases h : x = 0
    · subst h; rfl
    · have : ((x : Int) == 0) = false := by simpa using h
      simp [this, one, h]
  rw [hone] at IS
  have h1 : (if x = 0 then 1 else 0 : Nat) ≤ 1 := by split <;> omega
  have hv : uval 0 32 x = 32 - Lib.bitLen x := rfl
  rw [hv]
  clear CA hx hU hv hone hT
  generalize Lib.bitLen x = L at *
  generalize Lib.ctz 64 x = C at *
  generalize Lib.popAux 64 x = P at *
  generalize (if x = 0 then 1 else 0 : Nat) = E at *
  have e1 : IntKind.i64.wrap (64 - (L : Int) - 32) = 32 - (L : Int) := by rw [IntWalk.i64_in _ (by omega)]; omega
  have e2 : IntKind.u64.wrap (32 - (L : Int)) = ((32 - L : Nat) : Int) := by rw [IntWalk.u64_in _ (by omega)]; omega
  have e3 : IntKind.u64.wrap ((P : Nat) : Int) = (P : Int) := IntWalk.u64_in _ (by omega)
  have e4 : IntKind.u64.wrap ((min C 32 : Nat) : Int) = ((min C 32 : Nat) : Int) := IntWalk.u64_in _ (by omega)
  go_enter Tryd.func6, Tryd.ntmps6
  go_wp2_with fail
  refine R.out.mono ?_
  rintro e w2 ⟨rfl, rfl⟩
  go_wp2_with fail
  refine CA2.out.mono ?_
  rintro e w2 ⟨rfl, rfl⟩
  go_wp2_with fail
  refine LZ.out.mono ?_
  rintro e w2 ⟨rfl, rfl⟩
  go_wp2_with fail
  refine TZ.out.mono ?_
  rintro e w2 ⟨rfl, rfl⟩
  go_wp2_with fail
  refine OC.out.mono ?_
  rintro e w2 ⟨rfl, rfl⟩
  go_wp2_with fail
  refine IS.out.mono ?_
  rintro e w2 ⟨rfl, rfl⟩
  go_wp2_with fail
  go_ret2
  exact ⟨rfl, _, rfl⟩

set_option maxHeartbeats 1000000 in
theorem un32_1 (a x : Nat) (ha : a < 18446744073709551616) (hx : cut 32 (a : Int) = (x : Int)) (hxl : x < 4294967296) (w : World) (hT : Tab w) :
    Calls Tryd.prog 6 #[.int .i64 1, .int .i64 32, .int .u64 a] w (UPost w (uval 1 32 x)) := by
  have R := Lib.hid (right_ok 32 w)
  rw [show okBits 32 = true from rfl] at R
  have CA := cut_ok 32 (a : Int) (by omega) (by omega) w
  rw [hx] at CA
  have CA2 := Lib.hid CA
  have hx64 : x < 18446744073709551616 := by omega
  have LZ := Lib.hid (lead_ok x hx64 w)
  have TZ := Lib.hid (tz_ok x hx64 w hT)
  have OC := Lib.hid (ones_ok x hx64 w)
  have IS := Lib.hid (is_ok ((x : Int) == 0) w)
  have hL : Lib.bitLen x ≤ 32 := Lib.bitLen_le x 32 (by decide) (by simpa using hxl)
  have hC := ctz_le x hx64
  have hP := pa_le 64 x
  have hU : uval 1 32 x = uval 1 32 x := rfl
  have hone : one ((x : Int) == 0) = ((if x = 0 then 1 else 0 : Nat) : Int) := by
    by_cases h : x = 0
    · subst h; rfl
    · have : ((x : Int) == 0) = false := by simpa using h
      simp [this, one, h]
  rw [hone] at IS
  have h1 : (if x = 0 then 1 else 0 : Nat) ≤ 1 := by split <;> omega
  have hv : uval 1 32 x = min (Lib.ctz 64 x) 32 := rfl
  rw [hv]
  clear CA hx hU hv hone hT
  generalize Lib.bitLen x = L at *
  generalize Lib.ctz 64 x = C at *
  generalize Lib.popAux 64 x = P at *
  generalize (if x = 0 then 1 else 0 : Nat) = E at *
  have e1 : IntKind.i64.wrap (64 - (L : Int) - 32) = 32 - (L : Int) := by rw [IntWalk.i64_in _ (by omega)]; omega
  have e2 : IntKind.u64.wrap (32 - (L : Int)) = ((32 - L : Nat) : Int) := by rw [IntWalk.u64_in _ (by omega)]; omega
  have e3 : IntKind.u64.wrap ((P : Nat) : Int) = (P : Int) := IntWalk.u64_in _ (by omega)
  have e4 : IntKind.u64.wrap ((min C 32 : Nat) : Int) = ((min C 32 : Nat) : Int) := IntWalk.u64_in _ (by omega)
  go_enter Tryd.func6, Tryd.ntmps6
  go_wp2_with fail
  refine R.out.mono ?_
  rintro e w2 ⟨rfl, rfl⟩
  go_wp2_with fail
  refine CA2.out.mono ?_
  rintro e w2 ⟨rfl, rfl⟩
  go_wp2_with fail
  refine LZ.out.mono ?_
  rintro e w2 ⟨rfl, rfl⟩
  go_wp2_with fail
  refine TZ.out.mono ?_
  rintro e w2 ⟨rfl, rfl⟩
  go_wp2_with fail
  refine OC.out.mono ?_
  rintro e w2 ⟨rfl, rfl⟩
  go_wp2_with fail
  refine IS.out.mono ?_
  rintro e w2 ⟨rfl, rfl⟩
  go_wp2_with fail
  go_ret2
  exact ⟨by simp; omega, _, rfl⟩

set_option maxHeartbeats 1000000 in
theorem un32_2 (a x : Nat) (ha : a < 18446744073709551616) (hx : cut 32 (a : Int) = (x : Int)) (hxl : x < 4294967296) (w : World) (hT : Tab w) :
    Calls Tryd.prog 6 #[.int .i64 2, .int .i64 32, .int .u64 a] w (UPost w (uval 2 32 x)) := by
  have R := Lib.hid (right_ok 32 w)
  rw [show okBits 32 = true from rfl] at R
  have CA := cut_ok 32 (a : Int) (by omega) (by omega) w
  rw [hx] at CA
  have CA2 := Lib.hid CA
  have hx64 : x < 18446744073709551616 := by omega
  have LZ := Lib.hid (lead_ok x hx64 w)
  have TZ := Lib.hid (tz_ok x hx64 w hT)
  have OC := Lib.hid (ones_ok x hx64 w)
  have IS := Lib.hid (is_ok ((x : Int) == 0) w)
  have hL : Lib.bitLen x ≤ 32 := Lib.bitLen_le x 32 (by decide) (by simpa using hxl)
  have hC := ctz_le x hx64
  have hP := pa_le 64 x
  have hU : uval 2 32 x = uval 2 32 x := rfl
  have hone : one ((x : Int) == 0) = ((if x = 0 then 1 else 0 : Nat) : Int) := by
    by_cases h : x = 0
    · subst h; rfl
    · have : ((x : Int) == 0) = false := by simpa using h
      simp [this, one, h]
  rw [hone] at IS
  have h1 : (if x = 0 then 1 else 0 : Nat) ≤ 1 := by split <;> omega
  have hv : uval 2 32 x = Lib.popAux 64 x := rfl
  rw [hv]
  clear CA hx hU hv hone hT
  generalize Lib.bitLen x = L at *
  generalize Lib.ctz 64 x = C at *
  generalize Lib.popAux 64 x = P at *
  generalize (if x = 0 then 1 else 0 : Nat) = E at *
  have e1 : IntKind.i64.wrap (64 - (L : Int) - 32) = 32 - (L : Int) := by rw [IntWalk.i64_in _ (by omega)]; omega
  have e2 : IntKind.u64.wrap (32 - (L : Int)) = ((32 - L : Nat) : Int) := by rw [IntWalk.u64_in _ (by omega)]; omega
  have e3 : IntKind.u64.wrap ((P : Nat) : Int) = (P : Int) := IntWalk.u64_in _ (by omega)
  have e4 : IntKind.u64.wrap ((min C 32 : Nat) : Int) = ((min C 32 : Nat) : Int) := IntWalk.u64_in _ (by omega)
  go_enter Tryd.func6, Tryd.ntmps6
  go_wp2_with fail
  refine R.out.mono ?_
  rintro e w2 ⟨rfl, rfl⟩
  go_wp2_with fail
  refine CA2.out.mono ?_
  rintro e w2 ⟨rfl, rfl⟩
  go_wp2_with fail
  refine LZ.out.mono ?_
  rintro e w2 ⟨rfl, rfl⟩
  go_wp2_with fail
  refine TZ.out.mono ?_
  rintro e w2 ⟨rfl, rfl⟩
  go_wp2_with fail
  refine OC.out.mono ?_
  rintro e w2 ⟨rfl, rfl⟩
  go_wp2_with fail
  refine IS.out.mono ?_
  rintro e w2 ⟨rfl, rfl⟩
  go_wp2_with fail
  go_ret2
  exact ⟨rfl, _, rfl⟩

set_option maxHeartbeats 1000000 in
theorem un32_3 (a x : Nat) (ha : a < 18446744073709551616) (hx : cut 32 (a : Int) = (x : Int)) (hxl : x < 4294967296) (w : World) (hT : Tab w) :
    Calls Tryd.prog 6 #[.int .i64 3, .int .i64 32, .int .u64 a] w (UPost w (uval 3 32 x)) := by
  have R := Lib.hid (right_ok 32 w)
  rw [show okBits 32 = true from rfl] at R
  have CA := cut_ok 32 (a : Int) (by omega) (by omega) w
  rw [hx] at CA
  have CA2 := Lib.hid CA
  have hx64 : x < 18446744073709551616 := by omega
  have LZ := Lib.hid (lead_ok x hx64 w)
  have TZ := Lib.hid (tz_ok x hx64 w hT)
  have OC := Lib.hid (ones_ok x hx64 w)
  have IS := Lib.hid (is_ok ((x : Int) == 0) w)
  have hL : Lib.bitLen x ≤ 32 := Lib.bitLen_le x 32 (by decide) (by simpa using hxl)
  have hC := ctz_le x hx64
  have hP := pa_le 64 x
  have hU : uval 3 32 x = uval 3 32 x := rfl
  have hone : one ((x : Int) == 0) = ((if x = 0 then 1 else 0 : Nat) : Int) := by
    by_cases h : x = 0
    · subst h; rfl
    · have : ((x : Int) == 0) = false := by simpa using h
      simp [this, one, h]
  rw [hone] at IS
  have h1 : (if x = 0 then 1 else 0 : Nat) ≤ 1 := by split <;> omega
  have hv : uval 3 32 x = (if x = 0 then 1 else 0) := rfl
  rw [hv]
  clear CA hx hU hv hone hT
  generalize Lib.bitLen x = L at *
  generalize Lib.ctz 64 x = C at *
  generalize Lib.popAux 64 x = P at *
  generalize (if x = 0 then 1 else 0 : Nat) = E at *
  have e1 : IntKind.i64.wrap (64 - (L : Int) - 32) = 32 - (L : Int) := by rw [IntWalk.i64_in _ (by omega)]; omega
  have e2 : IntKind.u64.wrap (32 - (L : Int)) = ((32 - L : Nat) : Int) := by rw [IntWalk.u64_in _ (by omega)]; omega
  have e3 : IntKind.u64.wrap ((P : Nat) : Int) = (P : Int) := IntWalk.u64_in _ (by omega)
  have e4 : IntKind.u64.wrap ((min C 32 : Nat) : Int) = ((min C 32 : Nat) : Int) := IntWalk.u64_in _ (by omega)
  go_enter Tryd.func6, Tryd.ntmps6
  go_wp2_with fail
  refine R.out.mono ?_
  rintro e w2 ⟨rfl, rfl⟩
  go_wp2_with fail
  refine CA2.out.mono ?_
  rintro e w2 ⟨rfl, rfl⟩
  go_wp2_with fail
  refine LZ.out.mono ?_
  rintro e w2 ⟨rfl, rfl⟩
  go_wp2_with fail
  refine TZ.out.mono ?_
  rintro e w2 ⟨rfl, rfl⟩
  go_wp2_with fail
  refine OC.out.mono ?_
  rintro e w2 ⟨rfl, rfl⟩
  go_wp2_with fail
  refine IS.out.mono ?_
  rintro e w2 ⟨rfl, rfl⟩
  go_wp2_with fail
  go_ret2
  exact ⟨rfl, _, rfl⟩

set_option maxHeartbeats 1000000 in
theorem un64_0 (a x : Nat) (ha : a < 18446744073709551616) (hx : cut 64 (a : Int) = (x : Int)) (hxl : x < 18446744073709551616) (w : World) (hT : Tab w) :
    Calls Tryd.prog 6 #[.int .i64 0, .int .i64 64, .int .u64 a] w (UPost w (uval 0 64 x)) := by
  have R := Lib.hid (right_ok 64 w)
  rw [show okBits 64 = true from rfl] at R
  have CA := cut_ok 64 (a : Int) (by omega) (by omega) w
  rw [hx] at CA
  have CA2 := Lib.hid CA
  have hx64 : x < 18446744073709551616 := by omega
  have LZ := Lib.hid (lead_ok x hx64 w)
  have TZ := Lib.hid (tz_ok x hx64 w hT)
  have OC := Lib.hid (ones_ok x hx64 w)
  have IS := Lib.hid (is_ok ((x : Int) == 0) w)
  have hL : Lib.bitLen x ≤ 64 := Lib.bitLen_le x 64 (by decide) (by simpa using hxl)
  have hC := ctz_le x hx64
  have hP := pa_le 64 x
  have hU : uval 0 64 x = uval 0 64 x := rfl
  have hone : one ((x : Int) == 0) = ((if x = 0 then 1 else 0 : Nat) : Int) := by
    by_cases h : x = 0
    · subst h; rfl
    · have : ((x : Int) == 0) = false := by simpa using h
      simp [this, one, h]
  rw [hone] at IS
  have h1 : (if x = 0 then 1 else 0 : Nat) ≤ 1 := by split <;> omega
  have hv : uval 0 64 x = 64 - Lib.bitLen x := rfl
  rw [hv]
  clear CA hx hU hv hone hT
  generalize Lib.bitLen x = L at *
  generalize Lib.ctz 64 x = C at *
  generalize Lib.popAux 64 x = P at *
  generalize (if x = 0 then 1 else 0 : Nat) = E at *
  have e1 : IntKind.i64.wrap (64 - (L : Int) - 0) = 64 - (L : Int) := by rw [IntWalk.i64_in _ (by omega)]; omega
  have e2 : IntKind.u64.wrap (64 - (L : Int)) = ((64 - L : Nat) : Int) := by rw [IntWalk.u64_in _ (by omega)]; omega
  have e3 : IntKind.u64.wrap ((P : Nat) : Int) = (P : Int) := IntWalk.u64_in _ (by omega)
  have e4 : IntKind.u64.wrap ((min C 64 : Nat) : Int) = ((min C 64 : Nat) : Int) := IntWalk.u64_in _ (by omega)
  go_enter Tryd.func6, Tryd.ntmps6
  go_wp2_with fail
  refine R.out.mono ?_
  rintro e w2 ⟨rfl, rfl⟩
  go_wp2_with fail
  refine CA2.out.mono ?_
  rintro e w2 ⟨rfl, rfl⟩
  go_wp2_with fail
  refine LZ.out.mono ?_
  rintro e w2 ⟨rfl, rfl⟩
  go_wp2_with fail
  refine TZ.out.mono ?_
  rintro e w2 ⟨rfl, rfl⟩
  go_wp2_with fail
  refine OC.out.mono ?_
  rintro e w2 ⟨rfl, rfl⟩
  go_wp2_with fail
  refine IS.out.mono ?_
  rintro e w2 ⟨rfl, rfl⟩
  go_wp2_with fail
  go_ret2
  exact ⟨rfl, _, rfl⟩

set_option maxHeartbeats 1000000 in
theorem un64_1 (a x : Nat) (ha : a < 18446744073709551616) (hx : cut 64 (a : Int) = (x : Int)) (hxl : x < 18446744073709551616) (w : World) (hT : Tab w) :
    Calls Tryd.prog 6 #[.int .i64 1, .int .i64 64, .int .u64 a] w (UPost w (uval 1 64 x)) := by
  have R := Lib.hid (right_ok 64 w)
  rw [show okBits 64 = true from rfl] at R
  have CA := cut_ok 64 (a : Int) (by omega) (by omega) w
  rw [hx] at CA
  have CA2 := Lib.hid CA
  have hx64 : x < 18446744073709551616 := by omega
  have LZ := Lib.hid (lead_ok x hx64 w)
  have TZ := Lib.hid (tz_ok x hx64 w hT)
  have OC := Lib.hid (ones_ok x hx64 w)
  have IS := Lib.hid (is_ok ((x : Int) == 0) w)
  have hL : Lib.bitLen x ≤ 64 := Lib.bitLen_le x 64 (by decide) (by simpa using hxl)
  have hC := ctz_le x hx64
  have hP := pa_le 64 x
  have hU : uval 1 64 x = uval 1 64 x := rfl
  have hone : one ((x : Int) == 0) = ((if x = 0 then 1 else 0 : Nat) : Int) := by
    by_cases h : x = 0
    · subst h; rfl
    · have : ((x : Int) == 0) = false := by simpa using h
      simp [this, one, h]
  rw [hone] at IS
  have h1 : (if x = 0 then 1 else 0 : Nat) ≤ 1 := by split <;> omega
  have hv : uval 1 64 x = min (Lib.ctz 64 x) 64 := rfl
  rw [hv]
  clear CA hx hU hv hone hT
  generalize Lib.bitLen x = L at *
  generalize Lib.ctz 64 x = C at *
  generalize Lib.popAux 64 x = P at *
  generalize (if x = 0 then 1 else 0 : Nat) = E at *
  have e1 : IntKind.i64.wrap (64 - (L : Int) - 0) = 64 - (L : Int) := by rw [IntWalk.i64_in _ (by omega)]; omega
  have e2 : IntKind.u64.wrap (64 - (L : Int)) = ((64 - L : Nat) : Int) := by rw [IntWalk.u64_in _ (by omega)]; omega
  have e3 : IntKind.u64.wrap ((P : Nat) : Int) = (P : Int) := IntWalk.u64_in _ (by omega)
  have e4 : IntKind.u64.wrap ((min C 64 : Nat) : Int) = ((min C 64 : Nat) : Int) := IntWalk.u64_in _ (by omega)
  go_enter Tryd.func6, Tryd.ntmps6
  go_wp2_with fail
  refine R.out.mono ?_
  rintro e w2 ⟨rfl, rfl⟩
  go_wp2_with fail
  refine CA2.out.mono ?_
  rintro e w2 ⟨rfl, rfl⟩
  go_wp2_with fail
  refine LZ.out.mono ?_
  rintro e w2 ⟨rfl, rfl⟩
  go_wp2_with fail
  refine TZ.out.mono ?_
  rintro e w2 ⟨rfl, rfl⟩
  go_wp2_with fail
  refine OC.out.mono ?_
  rintro e w2 ⟨rfl, rfl⟩
  go_wp2_with fail
  refine IS.out.mono ?_
  rintro e w2 ⟨rfl, rfl⟩
  go_wp2_with fail
  go_ret2
  exact ⟨by simp; omega, _, rfl⟩

set_option maxHeartbeats 1000000 in
theorem un64_2 (a x : Nat) (ha : a < 18446744073709551616) (hx : cut 64 (a : Int) = (x : Int)) (hxl : x < 18446744073709551616) (w : World) (hT : Tab w) :
    Calls Tryd.prog 6 #[.int .i64 2, .int .i64 64, .int .u64 a] w (UPost w (uval 2 64 x)) := by
  have R := Lib.hid (right_ok 64 w)
  rw [show okBits 64 = true from rfl] at R
  have CA := cut_ok 64 (a : Int) (by omega) (by omega) w
  rw [hx] at CA
  have CA2 := Lib.hid CA
  have hx64 : x < 18446744073709551616 := by omega
  have LZ := Lib.hid (lead_ok x hx64 w)
  have TZ := Lib.hid (tz_ok x hx64 w hT)
  have OC := Lib.hid (ones_ok x hx64 w)
  have IS := Lib.hid (is_ok ((x : Int) == 0) w)
  have hL : Lib.bitLen x ≤ 64 := Lib.bitLen_le x 64 (by decide) (by simpa using hxl)
  have hC := ctz_le x hx64
  have hP := pa_le 64 x
  have hU : uval 2 64 x = uval 2 64 x := rfl
  have hone : one ((x : Int) == 0) = ((if x = 0 then 1 else 0 : Nat) : Int) := by
    by_cases h : x = 0
    · subst h; rfl
    · have : ((x : Int) == 0) = false := by simpa using h
      simp [this, one, h]
  rw [hone] at IS
  have h1 : (if x = 0 then 1 else 0 : Nat) ≤ 1 := by split <;> omega
  have hv : uval 2 64 x = Lib.popAux 64 x := rfl
  rw [hv]
  clear CA hx hU hv hone hT
  generalize Lib.bitLen x = L at *
  generalize Lib.ctz 64 x = C at *
  generalize Lib.popAux 64 x = P at *
  generalize (if x = 0 then 1 else 0 : Nat) = E at *
  have e1 : IntKind.i64.wrap (64 - (L : Int) - 0) = 64 - (L : Int) := by rw [IntWalk.i64_in _ (by omega)]; omega
  have e2 : IntKind.u64.wrap (64 - (L : Int)) = ((64 - L : Nat) : Int) := by rw [IntWalk.u64_in _ (by omega)]; omega
  have e3 : IntKind.u64.wrap ((P : Nat) : Int) = (P : Int) := IntWalk.u64_in _ (by omega)
  have e4 : IntKind.u64.wrap ((min C 64 : Nat) : Int) = ((min C 64 : Nat) : Int) := IntWalk.u64_in _ (by omega)
  go_enter Tryd.func6, Tryd.ntmps6
  go_wp2_with fail
  refine R.out.mono ?_
  rintro e w2 ⟨rfl, rfl⟩
  go_wp2_with fail
  refine CA2.out.mono ?_
  rintro e w2 ⟨rfl, rfl⟩
  go_wp2_with fail
  refine LZ.out.mono ?_
  rintro e w2 ⟨rfl, rfl⟩
  go_wp2_with fail
  refine TZ.out.mono ?_
  rintro e w2 ⟨rfl, rfl⟩
  go_wp2_with fail
  refine OC.out.mono ?_
  rintro e w2 ⟨rfl, rfl⟩
  go_wp2_with fail
  refine IS.out.mono ?_
  rintro e w2 ⟨rfl, rfl⟩
  go_wp2_with fail
  go_ret2
  exact ⟨rfl, _, rfl⟩

set_option maxHeartbeats 1000000 in
theorem un64_3 (a x : Nat) (ha : a < 18446744073709551616) (hx : cut 64 (a : Int) = (x : Int)) (hxl : x < 18446744073709551616) (w : World) (hT : Tab w) :
    Calls Tryd.prog 6 #[.int .i64 3, .int .i64 64, .int .u64 a] w (UPost w (uval 3 64 x)) := by
  have R := Lib.hid (right_ok 64 w)
  rw [show okBits 64 = true from rfl] at R
  have CA := cut_ok 64 (a : Int) (by omega) (by omega) w
  rw [hx] at CA
  have CA2 := Lib.hid CA
  have hx64 : x < 18446744073709551616 := by omega
  have LZ := Lib.hid (lead_ok x hx64 w)
  have TZ := Lib.hid (tz_ok x hx64 w hT)
  have OC := Lib.hid (ones_ok x hx64 w)
  have IS := Lib.hid (is_ok ((x : Int) == 0) w)
  have hL : Lib.bitLen x ≤ 64 := Lib.bitLen_le x 64 (by decide) (by simpa using hxl)
  have hC := ctz_le x hx64
  have hP := pa_le 64 x
  have hU : uval 3 64 x = uval 3 64 x := rfl
  have hone : one ((x : Int) == 0) = ((if x = 0 then 1 else 0 : Nat) : Int) := by
    by_cases h : x = 0
    · subst h; rfl
    · have : ((x : Int) == 0) = false := by simpa using h
      simp [this, one, h]
  rw [hone] at IS
  have h1 : (if x = 0 then 1 else 0 : Nat) ≤ 1 := by split <;> omega
  have hv : uval 3 64 x = (if x = 0 then 1 else 0) := rfl
  rw [hv]
  clear CA hx hU hv hone hT
  generalize Lib.bitLen x = L at *
  generalize Lib.ctz 64 x = C at *
  generalize Lib.popAux 64 x = P at *
  generalize (if x = 0 then 1 else 0 : Nat) = E at *
  have e1 : IntKind.i64.wrap (64 - (L : Int) - 0) = 64 - (L : Int) := by rw [IntWalk.i64_in _ (by omega)]; omega
  have e2 : IntKind.u64.wrap (64 - (L : Int)) = ((64 - L : Nat) : Int) := by rw [IntWalk.u64_in _ (by omega)]; omega
  have e3 : IntKind.u64.wrap ((P : Nat) : Int) = (P : Int) := IntWalk.u64_in _ (by omega)
  have e4 : IntKind.u64.wrap ((min C 64 : Nat) : Int) = ((min C 64 : Nat) : Int) := IntWalk.u64_in _ (by omega)
  go_enter Tryd.func6, Tryd.ntmps6
  go_wp2_with fail
  refine R.out.mono ?_
  rintro e w2 ⟨rfl, rfl⟩
  go_wp2_with fail
  refine CA2.out.mono ?_
  rintro e w2 ⟨rfl, rfl⟩
  go_wp2_with fail
  refine LZ.out.mono ?_
  rintro e w2 ⟨rfl, rfl⟩
  go_wp2_with fail
  refine TZ.out.mono ?_
  rintro e w2 ⟨rfl, rfl⟩
  go_wp2_with fail
  refine OC.out.mono ?_
  rintro e w2 ⟨rfl, rfl⟩
  go_wp2_with fail
  refine IS.out.mono ?_
  rintro e w2 ⟨rfl, rfl⟩
  go_wp2_with fail
  go_ret2
  exact ⟨rfl, _, rfl⟩

theorem un_bad (op n a : Int) (h : okBits n = false ∨ op < 0 ∨ 3 < op) (w : World) :
    Calls Tryd.prog 6 #[.int .i64 op, .int .i64 n, .int .u64 a] w (Ret w (.tuple #[.int .u64 0, .int .i64 1])) := by
  have R := Lib.hid (right_ok n w)
  cases hn : okBits n with
  | false =>
    rw [hn] at R
    go_enter Tryd.func6, Tryd.ntmps6
    go_wp2_with fail
    refine R.out.mono ?_
    rintro e w2 ⟨rfl, rfl⟩
    go_wp2_with fail
    go_ret2
    exact ⟨rfl, rfl⟩
  | true =>
    rw [hn] at R h
    by_cases h1 : op < 0
    · clear h
      go_enter Tryd.func6, Tryd.ntmps6
      go_wp2_with fail
      refine R.out.mono ?_
      rintro e w2 ⟨rfl, rfl⟩
      go_wp2_with fail
      go_ret2
      exact ⟨rfl, rfl⟩
    · have h2 : 3 < op := by
        rcases h with h | h | h
        · cases h
        · exact absurd h h1
        · exact h
      clear h
      go_enter Tryd.func6, Tryd.ntmps6
      go_wp2_with fail
      refine R.out.mono ?_
      rintro e w2 ⟨rfl, rfl⟩
      go_wp2_with fail
      go_ret2
      exact ⟨rfl, rfl⟩
end Go.Proofs.YtphhgmeokmemlaaDoor
