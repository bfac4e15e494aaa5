/- A unary op is the document's: the walk. -/
import Derived.Test.YtphhgmeokmemlaaDoorV10
namespace Go.Proofs.YtphhgmeokmemlaaDoor
open Go.RowKit Go.Maps
set_option linter.unusedSimpArgs false
set_option linter.unusedVariables false

theorem Touch.toB {w w' : World} (t : Touch (fun _ => False) w w') {w0 : World} (b : Below w0.heap.size w0 w) : Below w0.heap.size w0 w' :=
  b.trans ⟨t.os, t.tape, t.output, t.size, fun k hk => t.block k (Nat.lt_of_lt_of_le hk b.size) (fun h => h)⟩

theorem un_any32 (op a : Nat) (hop : op < 4) (ha : a < 18446744073709551616) (w : World) (hT : Tab w) :
    Calls Tryd.prog 6 #[.int .i64 op, .int .i64 32, .int .u64 a] w (UPost w (uval op 32 (a % 4294967296))) := by
  match op, hop with
  | 0, _ => exact u32_0 a 0 ha (by decide) w hT
  | 1, _ => exact u32_1 a 0 ha (by decide) w hT
  | 2, _ => exact u32_2 a 0 ha (by decide) w hT
  | 3, _ => exact u32_3 a 0 ha (by decide) w hT
theorem rval_eq32 (op x : Nat) (hop : op < 4) (hx : x < 4294967296) : rval op 32 x = uval op 32 x := by
  have h1 := ones_eq 32 x (by decide) hx
  match op, hop with
  | 0, _ => exact ahead_eq 32 x (by decide) hx
  | 1, _ => exact behind_eq 32 x (by decide) hx
  | 2, _ => exact h1
  | 3, _ =>
    show (if Lib.popAux 32 x = 0 then 1 else 0 : Nat) = if x = 0 then 1 else 0
    rw [h1]
    exact ones_none x (by omega)
theorem uval_le32 (op x : Nat) (hx : x < 4294967296) : uval op 32 x ≤ 64 := by
  unfold uval
  split
  · omega
  · omega
  · exact pa_le 64 x
  · split <;> omega

theorem un_any64 (op a : Nat) (hop : op < 4) (ha : a < 18446744073709551616) (w : World) (hT : Tab w) :
    Calls Tryd.prog 6 #[.int .i64 op, .int .i64 64, .int .u64 a] w (UPost w (uval op 64 (a % 18446744073709551616))) := by
  match op, hop with
  | 0, _ => exact u64_0 a 0 ha (by decide) w hT
  | 1, _ => exact u64_1 a 0 ha (by decide) w hT
  | 2, _ => exact u64_2 a 0 ha (by decide) w hT
  | 3, _ => exact u64_3 a 0 ha (by decide) w hT
theorem rval_eq64 (op x : Nat) (hop : op < 4) (hx : x < 18446744073709551616) : rval op 64 x = uval op 64 x := by
  have h1 := ones_eq 64 x (by decide) hx
  match op, hop with
  | 0, _ => exact ahead_eq 64 x (by decide) hx
  | 1, _ => exact behind_eq 64 x (by decide) hx
  | 2, _ => exact h1
  | 3, _ =>
    show (if Lib.popAux 64 x = 0 then 1 else 0 : Nat) = if x = 0 then 1 else 0
    rw [h1]
    exact ones_none x (by omega)
theorem uval_le64 (op x : Nat) (hx : x < 18446744073709551616) : uval op 64 x ≤ 64 := by
  unfold uval
  split
  · omega
  · omega
  · exact pa_le 64 x
  · split <;> omega

set_option maxRecDepth 100000 in
set_option maxHeartbeats 2000000 in
theorem unary32_b_in (op : Nat) (hop : op < 4) (a : Nat) (ha : a < 18446744073709551616) (hbig : 2147483648 ≤ a % 4294967296) (w : World) (hT : Tab w) :
    Calls Tryd.prog 3 #[.int .i64 op, .int .i64 32, .int .u64 a] w fun e w' => e = .returned (.bool true) ∧ Below w.heap.size w w' := by
  have hv := uval_le32 op (a % 4294967296) (Nat.mod_lt _ (by decide))
  have UN := un_any32 op a hop ha w hT
  have RF := fun w => ref_ok op 32 a (a % 4294967296) hop (by decide) (by decide) ha rfl w
  rw [rval_eq32 op (a % 4294967296) hop (Nat.mod_lt _ (by decide))] at RF
  have UN := Lib.hid UN
  have RF := Lib.hid RF
  have o1 : ¬ (op : Int) < 0 := by omega
  have o2 : ¬ 3 < (op : Int) := by omega
  generalize uval op 32 (a % 4294967296) = v at *
  have CA := fun w => cut_ok 32 (a : Int) (by omega) (by omega) w
  rw [show cut 32 (a : Int) = (a : Int) % 4294967296 from rfl] at CA
  have CA := Lib.hid CA
  have SG := fun w => sign_ok 32 (a : Int) (by omega) (by omega) w
  rw [show sgn 32 (a : Int) = (a : Int) % 4294967296 - 4294967296 from by simp [sgn, wrap32]; omega] at SG
  have SG := Lib.hid SG
  obtain ⟨r, hr⟩ : ∃ r, (a : Int) % 4294967296 = r := ⟨_, rfl⟩
  have r0 : 0 ≤ r := by omega
  have r1 : r < 4294967296 := by omega
  have hb : 2147483648 ≤ r := by omega
  clear hbig
  rw [hr] at CA SG
  have e1 : IntKind.i64.wrap r = r := IntWalk.i64_in _ (by omega)
  have e2 : IntKind.i64.wrap (r - 4294967296) = r - 4294967296 := IntWalk.i64_in _ (by omega)
  have LR := Lib.hid (fun w => lawright_ok 32 w)
  rw [show okBits 32 = true from rfl] at LR
  clear hT
  go_enter Tryd.func3, Tryd.ntmps3
  go_wp2_with fail
  refine UN.out.mono ?_
  rintro e w2 ⟨rfl, o, rfl⟩
  have b2 := (Below.refl w.heap.size w).alloc (Nat.le_refl _) o
  go_wp2_with fail
  refine (CA.out _).mono ?_
  rintro e w3 ⟨rfl, rfl⟩
  go_wp2_with fail
  refine (SG.out _).mono ?_
  rintro e w3 ⟨rfl, rfl⟩
  go_wp2_with fail
  refine (LR.out _).mono ?_
  rintro e w3 ⟨rfl, rfl⟩
  go_wp2_with fail
  refine (RF.out _).mono ?_
  rintro e w3 ⟨rfl, t3⟩
  have b3 := t3.toB b2
  go_wp2_with fail
  refine (awake_ok _).mono ?_
  rintro e w4 ⟨rfl, rfl⟩
  go_wp2_with fail
  go_ret
  exact ⟨rfl, b3⟩

set_option maxRecDepth 100000 in
set_option maxHeartbeats 2000000 in
theorem unary32_b_out (op : Int) (hop : op < 0 ∨ 3 < op) (a : Nat) (ha : a < 18446744073709551616) (hbig : 2147483648 ≤ a % 4294967296) (w : World) (hT : Tab w) :
    Calls Tryd.prog 3 #[.int .i64 op, .int .i64 32, .int .u64 a] w fun e w' => e = .returned (.bool true) ∧ Below w.heap.size w w' := by
  have UN := Lib.hid (un_bad op 32 (a : Int) (.inr hop) w)
  have CA := fun w => cut_ok 32 (a : Int) (by omega) (by omega) w
  rw [show cut 32 (a : Int) = (a : Int) % 4294967296 from rfl] at CA
  have CA := Lib.hid CA
  have SG := fun w => sign_ok 32 (a : Int) (by omega) (by omega) w
  rw [show sgn 32 (a : Int) = (a : Int) % 4294967296 - 4294967296 from by simp [sgn, wrap32]; omega] at SG
  have SG := Lib.hid SG
  obtain ⟨r, hr⟩ : ∃ r, (a : Int) % 4294967296 = r := ⟨_, rfl⟩
  have r0 : 0 ≤ r := by omega
  have r1 : r < 4294967296 := by omega
  have hb : 2147483648 ≤ r := by omega
  clear hbig
  rw [hr] at CA SG
  have e1 : IntKind.i64.wrap r = r := IntWalk.i64_in _ (by omega)
  have e2 : IntKind.i64.wrap (r - 4294967296) = r - 4294967296 := IntWalk.i64_in _ (by omega)
  have LR := Lib.hid (fun w => lawright_ok 32 w)
  rw [show okBits 32 = true from rfl] at LR
  clear hT
  rcases hop with hop | hop
  · go_enter Tryd.func3, Tryd.ntmps3
    go_wp2_with fail
    refine UN.out.mono ?_
    rintro e w2 ⟨rfl, rfl⟩
    go_wp2_with fail
    refine (CA.out _).mono ?_
    rintro e w3 ⟨rfl, rfl⟩
    go_wp2_with fail
    refine (SG.out _).mono ?_
    rintro e w3 ⟨rfl, rfl⟩
    go_wp2_with fail
    refine (LR.out _).mono ?_
    rintro e w3 ⟨rfl, rfl⟩
    go_wp2_with fail
    refine (awake_ok _).mono ?_
    rintro e w4 ⟨rfl, rfl⟩
    go_wp2_with fail
    go_ret
    exact ⟨rfl, Below.refl _ _⟩
  · have h0 : ¬ op < 0 := by omega
    go_enter Tryd.func3, Tryd.ntmps3
    go_wp2_with fail
    refine UN.out.mono ?_
    rintro e w2 ⟨rfl, rfl⟩
    go_wp2_with fail
    refine (CA.out _).mono ?_
    rintro e w3 ⟨rfl, rfl⟩
    go_wp2_with fail
    refine (SG.out _).mono ?_
    rintro e w3 ⟨rfl, rfl⟩
    go_wp2_with fail
    refine (LR.out _).mono ?_
    rintro e w3 ⟨rfl, rfl⟩
    go_wp2_with fail
    refine (awake_ok _).mono ?_
    rintro e w4 ⟨rfl, rfl⟩
    go_wp2_with fail
    go_ret
    exact ⟨rfl, Below.refl _ _⟩

set_option maxRecDepth 100000 in
set_option maxHeartbeats 2000000 in
theorem unary32_s_in (op : Nat) (hop : op < 4) (a : Nat) (ha : a < 18446744073709551616) (hbig : a % 4294967296 < 2147483648) (w : World) (hT : Tab w) :
    Calls Tryd.prog 3 #[.int .i64 op, .int .i64 32, .int .u64 a] w fun e w' => e = .returned (.bool true) ∧ Below w.heap.size w w' := by
  have hv := uval_le32 op (a % 4294967296) (Nat.mod_lt _ (by decide))
  have UN := un_any32 op a hop ha w hT
  have RF := fun w => ref_ok op 32 a (a % 4294967296) hop (by decide) (by decide) ha rfl w
  rw [rval_eq32 op (a % 4294967296) hop (Nat.mod_lt _ (by decide))] at RF
  have UN := Lib.hid UN
  have RF := Lib.hid RF
  have o1 : ¬ (op : Int) < 0 := by omega
  have o2 : ¬ 3 < (op : Int) := by omega
  generalize uval op 32 (a % 4294967296) = v at *
  have CA := fun w => cut_ok 32 (a : Int) (by omega) (by omega) w
  rw [show cut 32 (a : Int) = (a : Int) % 4294967296 from rfl] at CA
  have CA := Lib.hid CA
  have SG := fun w => sign_ok 32 (a : Int) (by omega) (by omega) w
  rw [show sgn 32 (a : Int) = (a : Int) % 4294967296 from by simp [sgn, wrap32]; omega] at SG
  have SG := Lib.hid SG
  obtain ⟨r, hr⟩ : ∃ r, (a : Int) % 4294967296 = r := ⟨_, rfl⟩
  have r0 : 0 ≤ r := by omega
  have r1 : r < 4294967296 := by omega
  have hb : r < 2147483648 := by omega
  clear hbig
  rw [hr] at CA SG
  have e1 : IntKind.i64.wrap r = r := IntWalk.i64_in _ (by omega)
  have e2 : IntKind.i64.wrap (r - 4294967296) = r - 4294967296 := IntWalk.i64_in _ (by omega)
  have LR := Lib.hid (fun w => lawright_ok 32 w)
  rw [show okBits 32 = true from rfl] at LR
  clear hT
  go_enter Tryd.func3, Tryd.ntmps3
  go_wp2_with fail
  refine UN.out.mono ?_
  rintro e w2 ⟨rfl, o, rfl⟩
  have b2 := (Below.refl w.heap.size w).alloc (Nat.le_refl _) o
  go_wp2_with fail
  refine (CA.out _).mono ?_
  rintro e w3 ⟨rfl, rfl⟩
  go_wp2_with fail
  refine (SG.out _).mono ?_
  rintro e w3 ⟨rfl, rfl⟩
  go_wp2_with fail
  refine (LR.out _).mono ?_
  rintro e w3 ⟨rfl, rfl⟩
  go_wp2_with fail
  refine (RF.out _).mono ?_
  rintro e w3 ⟨rfl, t3⟩
  have b3 := t3.toB b2
  go_wp2_with fail
  refine (awake_ok _).mono ?_
  rintro e w4 ⟨rfl, rfl⟩
  go_wp2_with fail
  go_ret
  exact ⟨rfl, b3⟩

set_option maxRecDepth 100000 in
set_option maxHeartbeats 2000000 in
theorem unary32_s_out (op : Int) (hop : op < 0 ∨ 3 < op) (a : Nat) (ha : a < 18446744073709551616) (hbig : a % 4294967296 < 2147483648) (w : World) (hT : Tab w) :
    Calls Tryd.prog 3 #[.int .i64 op, .int .i64 32, .int .u64 a] w fun e w' => e = .returned (.bool true) ∧ Below w.heap.size w w' := by
  have UN := Lib.hid (un_bad op 32 (a : Int) (.inr hop) w)
  have CA := fun w => cut_ok 32 (a : Int) (by omega) (by omega) w
  rw [show cut 32 (a : Int) = (a : Int) % 4294967296 from rfl] at CA
  have CA := Lib.hid CA
  have SG := fun w => sign_ok 32 (a : Int) (by omega) (by omega) w
  rw [show sgn 32 (a : Int) = (a : Int) % 4294967296 from by simp [sgn, wrap32]; omega] at SG
  have SG := Lib.hid SG
  obtain ⟨r, hr⟩ : ∃ r, (a : Int) % 4294967296 = r := ⟨_, rfl⟩
  have r0 : 0 ≤ r := by omega
  have r1 : r < 4294967296 := by omega
  have hb : r < 2147483648 := by omega
  clear hbig
  rw [hr] at CA SG
  have e1 : IntKind.i64.wrap r = r := IntWalk.i64_in _ (by omega)
  have e2 : IntKind.i64.wrap (r - 4294967296) = r - 4294967296 := IntWalk.i64_in _ (by omega)
  have LR := Lib.hid (fun w => lawright_ok 32 w)
  rw [show okBits 32 = true from rfl] at LR
  clear hT
  rcases hop with hop | hop
  · go_enter Tryd.func3, Tryd.ntmps3
    go_wp2_with fail
    refine UN.out.mono ?_
    rintro e w2 ⟨rfl, rfl⟩
    go_wp2_with fail
    refine (CA.out _).mono ?_
    rintro e w3 ⟨rfl, rfl⟩
    go_wp2_with fail
    refine (SG.out _).mono ?_
    rintro e w3 ⟨rfl, rfl⟩
    go_wp2_with fail
    refine (LR.out _).mono ?_
    rintro e w3 ⟨rfl, rfl⟩
    go_wp2_with fail
    refine (awake_ok _).mono ?_
    rintro e w4 ⟨rfl, rfl⟩
    go_wp2_with fail
    go_ret
    exact ⟨rfl, Below.refl _ _⟩
  · have h0 : ¬ op < 0 := by omega
    go_enter Tryd.func3, Tryd.ntmps3
    go_wp2_with fail
    refine UN.out.mono ?_
    rintro e w2 ⟨rfl, rfl⟩
    go_wp2_with fail
    refine (CA.out _).mono ?_
    rintro e w3 ⟨rfl, rfl⟩
    go_wp2_with fail
    refine (SG.out _).mono ?_
    rintro e w3 ⟨rfl, rfl⟩
    go_wp2_with fail
    refine (LR.out _).mono ?_
    rintro e w3 ⟨rfl, rfl⟩
    go_wp2_with fail
    refine (awake_ok _).mono ?_
    rintro e w4 ⟨rfl, rfl⟩
    go_wp2_with fail
    go_ret
    exact ⟨rfl, Below.refl _ _⟩

set_option maxRecDepth 100000 in
set_option maxHeartbeats 2000000 in
theorem unary64_s_in (op : Nat) (hop : op < 4) (a : Nat) (ha : a < 18446744073709551616)  (w : World) (hT : Tab w) :
    Calls Tryd.prog 3 #[.int .i64 op, .int .i64 64, .int .u64 a] w fun e w' => e = .returned (.bool true) ∧ Below w.heap.size w w' := by
  have hv := uval_le64 op (a % 18446744073709551616) (Nat.mod_lt _ (by decide))
  have UN := un_any64 op a hop ha w hT
  have RF := fun w => ref_ok op 64 a (a % 18446744073709551616) hop (by decide) (by decide) ha rfl w
  rw [rval_eq64 op (a % 18446744073709551616) hop (Nat.mod_lt _ (by decide))] at RF
  have UN := Lib.hid UN
  have RF := Lib.hid RF
  have o1 : ¬ (op : Int) < 0 := by omega
  have o2 : ¬ 3 < (op : Int) := by omega
  generalize uval op 64 (a % 18446744073709551616) = v at *
  have CA := fun w => cut_ok 64 (a : Int) (by omega) (by omega) w
  rw [cutN64 a ha] at CA
  have CA := Lib.hid CA
  have SG := fun w => sign_ok 64 (a : Int) (by omega) (by omega) w
  rw [show sgn 64 (a : Int) = wrap64 (a : Int) from by simp [sgn]] at SG
  have SG := Lib.hid SG
  rw [Nat.mod_eq_of_lt ha] at CA
  have LR := Lib.hid (fun w => lawright_ok 64 w)
  rw [show okBits 64 = true from rfl] at LR
  clear hT
  go_enter Tryd.func3, Tryd.ntmps3
  go_wp2_with fail
  refine UN.out.mono ?_
  rintro e w2 ⟨rfl, o, rfl⟩
  have b2 := (Below.refl w.heap.size w).alloc (Nat.le_refl _) o
  go_wp2_with fail
  refine (CA.out _).mono ?_
  rintro e w3 ⟨rfl, rfl⟩
  go_wp2_with fail
  refine (SG.out _).mono ?_
  rintro e w3 ⟨rfl, rfl⟩
  go_wp2_with fail
  refine (LR.out _).mono ?_
  rintro e w3 ⟨rfl, rfl⟩
  go_wp2_with fail
  refine (RF.out _).mono ?_
  rintro e w3 ⟨rfl, t3⟩
  have b3 := t3.toB b2
  go_wp2_with fail
  refine (awake_ok _).mono ?_
  rintro e w4 ⟨rfl, rfl⟩
  go_wp2_with fail
  go_ret
  exact ⟨rfl, b3⟩

set_option maxRecDepth 100000 in
set_option maxHeartbeats 2000000 in
theorem unary64_s_out (op : Int) (hop : op < 0 ∨ 3 < op) (a : Nat) (ha : a < 18446744073709551616)  (w : World) (hT : Tab w) :
    Calls Tryd.prog 3 #[.int .i64 op, .int .i64 64, .int .u64 a] w fun e w' => e = .returned (.bool true) ∧ Below w.heap.size w w' := by
  have UN := Lib.hid (un_bad op 64 (a : Int) (.inr hop) w)
  have CA := fun w => cut_ok 64 (a : Int) (by omega) (by omega) w
  rw [cutN64 a ha] at CA
  have CA := Lib.hid CA
  have SG := fun w => sign_ok 64 (a : Int) (by omega) (by omega) w
  rw [show sgn 64 (a : Int) = wrap64 (a : Int) from by simp [sgn]] at SG
  have SG := Lib.hid SG
  rw [Nat.mod_eq_of_lt ha] at CA
  have LR := Lib.hid (fun w => lawright_ok 64 w)
  rw [show okBits 64 = true from rfl] at LR
  clear hT
  rcases hop with hop | hop
  · go_enter Tryd.func3, Tryd.ntmps3
    go_wp2_with fail
    refine UN.out.mono ?_
    rintro e w2 ⟨rfl, rfl⟩
    go_wp2_with fail
    refine (CA.out _).mono ?_
    rintro e w3 ⟨rfl, rfl⟩
    go_wp2_with fail
    refine (SG.out _).mono ?_
    rintro e w3 ⟨rfl, rfl⟩
    go_wp2_with fail
    refine (LR.out _).mono ?_
    rintro e w3 ⟨rfl, rfl⟩
    go_wp2_with fail
    refine (awake_ok _).mono ?_
    rintro e w4 ⟨rfl, rfl⟩
    go_wp2_with fail
    go_ret
    exact ⟨rfl, Below.refl _ _⟩
  · have h0 : ¬ op < 0 := by omega
    go_enter Tryd.func3, Tryd.ntmps3
    go_wp2_with fail
    refine UN.out.mono ?_
    rintro e w2 ⟨rfl, rfl⟩
    go_wp2_with fail
    refine (CA.out _).mono ?_
    rintro e w3 ⟨rfl, rfl⟩
    go_wp2_with fail
    refine (SG.out _).mono ?_
    rintro e w3 ⟨rfl, rfl⟩
    go_wp2_with fail
    refine (LR.out _).mono ?_
    rintro e w3 ⟨rfl, rfl⟩
    go_wp2_with fail
    refine (awake_ok _).mono ?_
    rintro e w4 ⟨rfl, rfl⟩
    go_wp2_with fail
    go_ret
    exact ⟨rfl, Below.refl _ _⟩

theorem unary_else (op n : Int) (a : Nat) (ha : a < 18446744073709551616) (hn : okBits n = false) (w : World) :
    Calls Tryd.prog 3 #[.int .i64 op, .int .i64 n, .int .u64 a] w fun e w' => e = .returned (.bool true) ∧ Below w.heap.size w w' := by
  have UN := Lib.hid (un_bad op n (a : Int) (.inl hn) w)
  have h32 : ¬ n = 32 := by intro e; subst e; cases hn
  have CA := cut_ok n (a : Int) (by omega) (by omega) w
  rw [show cut n (a : Int) = (a : Int) by simp [cut, h32]] at CA
  have CA := Lib.hid CA
  have SG := sign_ok n (a : Int) (by omega) (by omega) w
  rw [show sgn n (a : Int) = wrap64 (a : Int) by simp [sgn, h32]] at SG
  have SG := Lib.hid SG
  have LR := lawright_ok n w
  rw [hn] at LR
  have LR := Lib.hid LR
  clear hn
  go_enter Tryd.func3, Tryd.ntmps3
  go_wp2_with fail
  refine UN.out.mono ?_
  rintro e w2 ⟨rfl, rfl⟩
  go_wp2_with fail
  refine CA.out.mono ?_
  rintro e w3 ⟨rfl, rfl⟩
  go_wp2_with fail
  refine SG.out.mono ?_
  rintro e w3 ⟨rfl, rfl⟩
  go_wp2_with fail
  refine LR.out.mono ?_
  rintro e w3 ⟨rfl, rfl⟩
  go_wp2_with fail
  refine (awake_ok _).mono ?_
  rintro e w4 ⟨rfl, rfl⟩
  go_wp2_with fail
  go_ret
  exact ⟨rfl, Below.refl _ _⟩

theorem unary_walk (op n a : Int) (w0 : (Lit.int .i64 op).wf = true) (w1 : (Lit.int .i64 n).wf = true) (w2 : (Lit.int .u64 a).wf = true) (w : World) (hT : Tab w) :
    Calls Tryd.prog 3 #[.int .i64 op, .int .i64 n, .int .u64 a] w fun e w' => e = .returned (.bool true) ∧ Below w.heap.size w w' := by
  obtain ⟨a0, a1⟩ := u64_range w2
  obtain ⟨a, rfl⟩ := Int.eq_ofNat_of_zero_le a0
  have ha : a < 18446744073709551616 := by omega
  cases hn : okBits n with
  | false => exact unary_else op n a ha hn w
  | true =>
    have : n = 32 ∨ n = 64 := by simpa [okBits] using hn
    by_cases hop : op < 0 ∨ 3 < op
    · rcases this with rfl | rfl
      · by_cases hb : 2147483648 ≤ a % 4294967296
        · exact unary32_b_out op hop a ha hb w hT
        · exact unary32_s_out op hop a ha (by omega) w hT
      · exact unary64_s_out op hop a ha w hT
    · obtain ⟨k, rfl⟩ := Int.eq_ofNat_of_zero_le (show 0 ≤ op by omega)
      rcases this with rfl | rfl
      · by_cases hb : 2147483648 ≤ a % 4294967296
        · exact unary32_b_in k (by omega) a ha hb w hT
        · exact unary32_s_in k (by omega) a ha (by omega) w hT
      · exact unary64_s_in k (by omega) a ha w hT
end Go.Proofs.YtphhgmeokmemlaaDoor
