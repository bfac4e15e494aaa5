/- Which of two words is less, as the document tells. -/
import Derived.Test.YtphhgmeokmemlaaL2
namespace Go.Proofs.Ytphhgmeokmemlaa
open Go.RowKit Go.Maps
set_option linter.unusedSimpArgs false
set_option linter.unusedVariables false

variable {w w' : World}

/-- a returned value, what was there stays. -/
abbrev RetT (w : World) (v : Value) (e : Ending) (w' : World) : Prop := e = .returned v ∧ Touch (fun _ => False) w w'

theorem lst_top (n x : Nat) (hn : 0 < n) : (lst n x).getD (n - 1) false = (x / 2 ^ (n - 1) % 2 == 1) := by
  rw [List.getD_eq_getElem?_getD, lst, List.getElem?_map, List.getElem?_range (by omega)]
  rfl

theorem cut_nat (n x : Nat) (hn : n = 32 ∨ n = 64) (hx : x < 18446744073709551616) : cut n x = ((x % 2 ^ n : Nat) : Int) := by
  rcases hn with rfl | rfl
  · simp [cut]
  · simp only [cut]
    rw [if_neg (by decide), Nat.mod_eq_of_lt (by omega)]

def lessN (s : Bool) (n x y : Nat) : Bool :=
  if (s && ((x / 2 ^ (n - 1) % 2 == 1) != (y / 2 ^ (n - 1) % 2 == 1))) then (x / 2 ^ (n - 1) % 2 == 1) else decide (x % 2 ^ n < y % 2 ^ n)

theorem tops (H A B : Nat) (SA SB : Int) (hA : A < 2 * H) (hB : B < 2 * H) (ha : SA = if H ≤ A then (A : Int) - 2 * H else A) (hb : SB = if H ≤ B then (B : Int) - 2 * H else B) :
    (if (decide (H ≤ A) != decide (H ≤ B)) then decide (H ≤ A) else decide (A < B)) = decide (SA < SB) := by
  by_cases h1 : H ≤ A <;> by_cases h2 : H ≤ B <;> simp only [h1, h2, if_true, if_false, decide_true, decide_false, bne_self_eq_false, Bool.false_eq_true, Bool.true_bne, Bool.false_bne, Bool.not_false, Bool.not_true] at ha hb ⊢ <;> subst ha <;> subst hb
  · rw [decide_eq_decide]; omega
  · symm; rw [decide_eq_true_eq]; omega
  · symm; rw [decide_eq_false_iff_not]; omega
  · rw [decide_eq_decide]; omega

theorem lessN_is (s : Bool) (n x y : Nat) (hn : n = 32 ∨ n = 64) (hx : x < 18446744073709551616) (hy : y < 18446744073709551616) : lessN s n x y = lessW s n (cut n x) (cut n y) := by
  rw [cut_nat n x hn hx, cut_nat n y hn hy]
  cases s with
  | false => simp only [lessN, lessW, Bool.false_and, Bool.false_eq_true, if_false]; rw [decide_eq_decide]; omega
  | true =>
    simp only [lessN, lessW, Bool.true_and, if_true]
    rcases hn with rfl | rfl
    · have tX : ∀ z : Nat, (z / 2 ^ (32 - 1) % 2 == 1) = decide (2147483648 ≤ z % 2 ^ 32) := fun z => by
        rw [Bool.eq_iff_iff, beq_iff_eq, decide_eq_true_eq]; omega
      rw [tX x, tX y]
      have bx : x % 2 ^ 32 < 4294967296 := by omega
      have bY : y % 2 ^ 32 < 4294967296 := by omega
      have sg : ∀ z : Int, sgn ((32 : Nat) : Int) z = wrap32 z := fun z => rfl
      rw [sg, sg]
      generalize x % 2 ^ 32 = A at *
      generalize y % 2 ^ 32 = B at *
      refine tops 2147483648 A B _ _ (by omega) (by omega) ?_ ?_
      · unfold wrap32; split <;> omega
      · unfold wrap32; split <;> omega
    · have tX : ∀ z : Nat, z < 18446744073709551616 → (z / 2 ^ (64 - 1) % 2 == 1) = decide (9223372036854775808 ≤ z % 2 ^ 64) := fun z hz => by
        rw [Bool.eq_iff_iff, beq_iff_eq, decide_eq_true_eq]; omega
      rw [tX x hx, tX y hy]
      have bx : x % 2 ^ 64 < 18446744073709551616 := by omega
      have bY : y % 2 ^ 64 < 18446744073709551616 := by omega
      have sg : ∀ z : Int, sgn ((64 : Nat) : Int) z = wrap64 z := fun z => by simp [sgn]
      rw [sg, sg]
      generalize x % 2 ^ 64 = A at *
      generalize y % 2 ^ 64 = B at *
      refine tops 9223372036854775808 A B _ _ (by omega) (by omega) ?_ ?_
      · unfold wrap64; split <;> omega
      · unfold wrap64; split <;> omega

set_option maxRecDepth 100000 in
set_option maxHeartbeats 1000000 in
theorem less2_ok (s : Bool) (n x y : Nat) (h0 : 0 < n) (hn : n ≤ 64) (hx : x < 18446744073709551616) (hy : y < 18446744073709551616) (w : World) :
    Calls Try.prog 32 #[.int .i64 n, .int .u64 x, .int .u64 y, .bool s] w (RetT w (.bool (lessN s n x y))) := by
  have LX := Lib.hid (list_ok n x h0 hn hx)
  have LY := Lib.hid (list_ok n y h0 hn hy)
  have wx := wd_lst n x
  have wy := wd_lst n y
  have ex := lst_length n x
  have ey := lst_length n y
  have tx := lst_top n x h0
  have ty := lst_top n y h0
  obtain ⟨r, hr⟩ : ∃ r, r = lessN s n x y := ⟨_, rfl⟩
  rw [← hr]
  unfold lessN at hr
  rw [← wx, ← wy, ← tx, ← ty] at hr
  have HR := Lib.hid hr
  have HE := Lib.hid (And.intro ex ey)
  clear wx wy ex ey tx ty hr
  go_enter Try.func32, Try.ntmps32
  go_wp2_with fail
  refine (LX.out _).mono ?_
  rintro e w2 ⟨v, rfl, b2, t2⟩
  go_wp2_with fail
  refine (LY.out _).mono ?_
  rintro e w3 ⟨u, rfl, b3, t3⟩
  have b2' := b2.kept t3 (fun _ _ h => h)
  have t := t2.trans t3
  clear t2 t3 b2
  generalize lst n x = l at *
  generalize lst n y = m at *
  have LL := Lib.hid (fun q => lless_ok l m (by rw [HE.out.1]; exact hn) (by rw [HE.out.1, HE.out.2]) (b2'.kept (Touch.drewN (fun _ => False) w3 q) (fun _ _ h => h)) (b3.kept (Touch.drewN (fun _ => False) w3 q) (fun _ _ h => h)))
  obtain ⟨g, cap, cur, rfl, hB, hg, hc⟩ := b2'
  obtain ⟨g2, cap2, cur2, rfl, hB2, hg2, hc2⟩ := b3
  have hcell := bits_cell hg hc (n - 1) (by rw [HE.out.1]; omega)
  have hcell2 := bits_cell hg2 hc2 (n - 1) (by rw [HE.out.2]; omega)
  rw [HE.out.1, HE.out.2] at *
  clear hg hc hg2 hc2 hB hB2 LX LY
  obtain ⟨k, rfl⟩ : ∃ k, n = k + 1 := ⟨n - 1, by omega⟩
  simp only [Nat.add_sub_cancel] at hcell hcell2 HR
  have c2 : ((k + 1 : Nat) : Int) - 1 = (k : Int) := by omega
  cases s with
  | false =>
    have hr := HR.out
    rw [Bool.false_and, if_neg (by decide)] at hr
    subst hr
    clear HR hcell hcell2
    go_wp2_with fail
    go_quiet (fail)
    go_wp2_with fail
    refine (LL.out _).mono ?_
    rintro e w5 ⟨rfl, q2, rfl⟩
    go_wp2_with fail
    go_ret
    exact ⟨rfl, t.trans (Touch.drewN _ w3 (nq + q2))⟩
  | true =>
    have hr := HR.out
    rw [Bool.true_and] at hr
    clear HR
    generalize l.getD k false = a at *
    generalize m.getD k false = b at *
    by_cases hab : a = b
    · subst hab
      rw [bne_self_eq_false, if_neg (by decide)] at hr
      subst hr
      go_wp2_with fail
      go_quiet (fail)
      clear hcell hcell2
      go_wp2_with fail
      refine (LL.out _).mono ?_
      rintro e w5 ⟨rfl, q2, rfl⟩
      go_wp2_with fail
      go_ret
      exact ⟨rfl, t.trans (Touch.drewN _ w3 (nq + q2))⟩
    · have hb : (a != b) = true := by simp [hab]
      rw [hb, if_pos rfl] at hr
      subst hr
      clear LL
      cases r <;> cases b <;> simp only [not_true_eq_false, not_false_eq_true, Bool.false_eq_true, Bool.true_eq_false, reduceCtorEq] at hab
      all_goals
        clear hb
        go_wp2_with fail
        go_quiet (fail)
        have t5 : Touch (fun _ => False) w (w3.drewN nq) := t.trans (Touch.drewN _ _ _)
        clear t
        go_wp2_with fail
        go_ret
        exact ⟨rfl, t5⟩
end Go.Proofs.Ytphhgmeokmemlaa
