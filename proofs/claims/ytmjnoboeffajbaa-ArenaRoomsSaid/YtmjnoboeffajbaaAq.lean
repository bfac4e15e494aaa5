/- What the bytes of an arena are to its readers and writers: a part, a number got and put, bytes copied out and in. -/
import Derived.Test.YtmjnoboeffajbaaAh
namespace Go.Proofs.Ytmjnoboeffajbaa
open Go.RowKit Go.Maps
set_option linter.unusedSimpArgs false
set_option linter.unusedVariables false

variable {w : World} {p : Nat} {A : Ar} {R : Rp}

theorem eqn22 (a : Option Addr) (n c : Nat) (w : World) : (binOp .eql 22 (.slice a n c) (.slice Option.none 0 0)).run Try.prog w = .ok (.bool a.isNone) w :=
  Lib.run_eql_slice_nil (P := Try.prog) w 22 5 a n c 0 0 Try.underlying22

set_option maxHeartbeats 400000 in
theorem part_ok (h : ArAt w p A R) (x n : Nat) (hx : x + n ≤ A.n) (h0 : 0 < n) :
    Calls Try.prog 53 #[.pointer (some ⟨p, 0, Option.none⟩), .int .i64 x, .int .i64 n] w fun e w' => e = .returned (.tuple #[.slice (some ⟨R.buf, x, Option.none⟩) n (A.n - x), .int .i64 0]) ∧ w = w' := by
  have c0 := h.c0
  have hn := h.hn
  go_enter Try.func53, Try.ntmps53
  go_wp2
  go_ret2
  refine ⟨?_, rfl⟩
  show Ending.returned (.tuple #[.slice (some ⟨R.buf, x, Option.none⟩) (x + n - x) (A.n - x), .int .i64 0]) = _
  rw [show x + n - x = n by omega]

set_option maxHeartbeats 400000 in
theorem word8_ok (h : ArAt w p A R) (x n : Nat) (hx : x + n ≤ A.n) (hn : n = 4 ∨ n = 8) :
    Calls Try.prog 55 #[.pointer (some ⟨p, 0, Option.none⟩), .int .i64 x, .int .i64 n] w fun e w' => e = .returned (.tuple #[.slice (some ⟨R.buf, x, Option.none⟩) n (A.n - x), .int .i64 0]) ∧ w = w' := by
  have PT := Lib.hid (part_ok h x n hx (by omega))
  rcases hn with rfl | rfl
  · go_enter Try.func55, Try.ntmps55
    go_wp2_with fail
    refine PT.out.mono ?_
    rintro e w1 ⟨rfl, rfl⟩
    go_wp2_with fail
    go_ret2
    exact ⟨rfl, rfl⟩
  · go_enter Try.func55, Try.ntmps55
    go_wp2_with fail
    refine PT.out.mono ?_
    rintro e w1 ⟨rfl, rfl⟩
    go_wp2_with fail
    go_ret2
    exact ⟨rfl, rfl⟩

/-- A number's bytes, the lowest first. -/
def leBytes : Nat → Nat → List Int
  | 0, _ => []
  | n + 1, v => ((v % 256 : Nat) : Int) :: leBytes n (v / 256)
theorem leBytes_length : ∀ (n v : Nat), (leBytes n v).length = n
  | 0, _ => rfl
  | n + 1, v => by simp [leBytes, leBytes_length n]
theorem leBytes_get : ∀ (n v i : Nat), i < n → (leBytes n v).getD i 0 = ((v / 256 ^ i % 256 : Nat) : Int)
  | 0, _, _, h => by omega
  | n + 1, v, 0, _ => by simp [leBytes]
  | n + 1, v, i + 1, h => by
    have := leBytes_get n (v / 256) i (by omega)
    simp only [leBytes, List.getD_cons_succ, this]
    rw [Nat.div_div_eq_div_mul, Nat.pow_succ, Nat.mul_comm 256]

theorem bytesOf_set (b : List Int) (i : Nat) (z : Int) : (bytesOf b).setIfInBounds i (.int .u8 z) = bytesOf (b.set i z) := by
  apply Array.ext'
  simp [bytesOf, List.map_set]

theorem ArAt.setByte (h : ArAt w p A R) (i : Nat) (z : Int) : ArAt (w.setCell ⟨R.buf, i, Option.none⟩ (.int .u8 z)) p { A with b := A.b.set i z } R := by
  have t : Touch (· = R.buf) w (w.setCell ⟨R.buf, i, Option.none⟩ (.int .u8 z)) := Touch.cell1 w R.buf i _
  refine ⟨t.heap (fun e => h.pb e) h.hp, ?_, by simpa using h.hbl, t.map (fun e => h.bt e.symm) h.ht, t.map (fun e => h.bg e.symm) h.hg, h.htg, h.ta, h.ro,
    fun x hx => ownsRow_touch t (h.own x hx) (fun k hk e => h.rb hx (by rw [hk, e])), h.nd, h.gnd, h.bnd, h.hn, h.hh, h.inT, h.inR⟩
  have := h.hb
  simp [World.setCell, Array.getElem?_modify, h.hb, bytesOf_set]

theorem over_set (b l : List Int) (x k : Nat) (hk : k < l.length) (hx : x + l.length ≤ b.length) : (over b x (l.take k)).set (x + k) (l.getD k 0) = over b x (l.take (k + 1)) := by
  apply List.ext_getElem?
  intro i
  have hlx : (b.take x).length = x := by simp; omega
  have hlk : (l.take k).length = k := by simp; omega
  have hlk1 : (l.take (k + 1)).length = k + 1 := by simp; omega
  have e : l.getD k 0 = l[k] := by rw [List.getD_eq_getElem?_getD, List.getElem?_eq_getElem hk]; rfl
  rw [e]
  simp only [over, List.getElem?_set, List.length_append, hlx, hlk, hlk1, List.length_drop, List.getElem?_append, List.getElem?_take, List.getElem?_drop]
  by_cases h1 : i < x
  · have : ¬ x + k = i := by omega
    simp [h1, this]
  · by_cases h2 : i = x + k
    · subst h2
      have h3 : ¬ x + k < x := by omega
      have h4 : x + k - x = k := by omega
      have h5 : x + k < x + (k + (b.length - (x + k))) := by omega
      simp [h3, h4, h5, List.getElem?_eq_getElem hk]
    · have h2' : ¬ x + k = i := fun e => h2 e.symm
      by_cases h3 : i - x < k
      · have h4 : i - x < k + 1 := by omega
        simp [h1, h2', h3, h4]
      · have h4 : ¬ i - x < k + 1 := by omega
        simp [h1, h2', h3, h4]
        congr 1; omega

theorem pow_ev (v k : Nat) : ((v / 256 ^ k % 256 : Nat) : Int) = (v : Int) / 2 ^ (8 * k) % 256 := by
  have e : (256 : Nat) ^ k = 2 ^ (8 * k) := by rw [Nat.pow_mul]
  rw [e, Int.natCast_emod, Int.natCast_ediv, Int.natCast_pow]; rfl

set_option maxHeartbeats 400000 in
theorem put_ok (h : ArAt w p A R) (x n v : Nat) (hx : x + n ≤ A.n) (hn : n = 4 ∨ n = 8) (hv : v < 18446744073709551616) :
    Calls Try.prog 29 #[.pointer (some ⟨p, 0, Option.none⟩), .int .i64 x, .int .i64 n, .int .u64 v] w fun e w' => e = .returned (.int .i64 0) ∧ ArAt w' p { A with b := over A.b x (leBytes n v) } R ∧ Touch (· = R.buf) w w' := by
  have WD := Lib.hid (word8_ok h x n hx hn)
  have hn8 : n ≤ 8 := by omega
  have hN := h.hn
  have h0 := Lib.hid h.hbl
  go_enter Try.func29, Try.ntmps29
  go_wp2_with fail
  refine WD.out.mono ?_
  rintro e w1 ⟨rfl, rfl⟩
  go_wp2_with fail
  go_loopw [21] (fun i wr => ∃ k : Nat, i = .int .i64 k ∧ k ≤ n ∧ ArAt wr p { A with b := over A.b x ((leBytes n v).take k) } R ∧ Touch (· = R.buf) w wr) (fun i _ => n - (intOf i).toNat)
  case atStart => exact ⟨0, rfl, Nat.zero_le _, by simpa [over] using h, Touch.refl _ _⟩
  case round =>
    clear h WD
    obtain ⟨k, rfl, hk, s, t⟩ := hrel
    by_cases hlt : k < n
    · have hfz : wr.frozen? ⟨R.buf, x + k, Option.none⟩ = false := by simp [World.frozen?, s.hb]
      obtain ⟨u, hu⟩ : ∃ u, wr.cell? ⟨R.buf, x + k, Option.none⟩ = some u := by
        rw [cell_of_row wr _ _ _ _ _ s.hb]
        exact ⟨_, Array.getElem?_eq_getElem (by have := s.hbl; simp only at this; simp [bytesOf]; omega)⟩
      have s2 := s.setByte (x + k) (((v / 256 ^ k % 256 : Nat) : Int))
      have hbl : x + n ≤ A.b.length := by rw [h0.out]; omega
      rw [← leBytes_get n v k hlt, over_set A.b (leBytes n v) x k (by rw [leBytes_length]; exact hlt) (by rw [leBytes_length]; exact hbl)] at s2
      rw [leBytes_get n v k hlt] at s2
      have ev := pow_ev v k
      rw [ev] at s2
      have t2 : Touch (· = R.buf) w (wr.setCell ⟨R.buf, x + k, Option.none⟩ (.int .u8 ((v : Int) / 2 ^ (8 * k) % 256))) := t.trans (Touch.cell1 wr R.buf (x + k) _)
      have FIN := Lib.hid (And.intro s2 t2)
      clear ev s2 t2 t hbl
      go_wp2_with fail
      exact ⟨⟨k + 1, by go_num, by omega, FIN.out.1, FIN.out.2⟩, by simp [intOf]; omega⟩
    · obtain rfl : k = n := by omega
      rw [List.take_of_length_le (by rw [leBytes_length]; exact Nat.le_refl _)] at s
      go_wp2_with fail
      go_ret
      exact ⟨rfl, s, t⟩

/-- The number of some bytes, the lowest first. -/
def leNum : List Int → Nat
  | [] => 0
  | b :: r => b.toNat + 256 * leNum r

theorem leNum_take : ∀ (l : List Int) (k : Nat), k < l.length → leNum (l.take (k + 1)) = leNum (l.take k) + (l.getD k 0).toNat * 256 ^ k
  | [], k, h => by simp at h
  | b :: r, 0, _ => by simp [leNum]
  | b :: r, k + 1, h => by
    have := leNum_take r k (by simpa using h)
    simp only [List.take_succ_cons, leNum, List.getD_cons_succ, Nat.pow_succ]
    rw [this, Nat.mul_add, Nat.mul_comm (256 ^ k) 256, Nat.mul_left_comm]
    omega
theorem leNum_lt : ∀ (l : List Int), (∀ z ∈ l, 0 ≤ z ∧ z ≤ 255) → leNum l < 256 ^ l.length
  | [], _ => by simp [leNum]
  | b :: r, h => by
    have h1 := leNum_lt r (fun z hz => h z (List.mem_cons_of_mem _ hz))
    have h2 := h b List.mem_cons_self
    simp only [leNum, List.length_cons, Nat.pow_succ]
    omega

theorem or_step (a z k : Nat) (hk : k < 8) (ha : a < 256 ^ k) (hz : z ≤ 255) : bits .or .u64 (a : Int) (IntKind.u64.wrap ((z : Int) * 2 ^ (8 * k))) = ((a + z * 256 ^ k : Nat) : Int) := by
  have e : (256 : Nat) ^ k = 2 ^ (8 * k) := by rw [Nat.pow_mul]
  have hp : 256 ^ k ≤ 256 ^ 7 := Nat.pow_le_pow_right (by omega) (by omega)
  have hzk : z * 256 ^ k ≤ 255 * 256 ^ k := Nat.mul_le_mul_right _ hz
  have e2 : ((z : Int) * 2 ^ (8 * k)) = ((z * 256 ^ k : Nat) : Int) := by rw [e, Int.natCast_mul, Int.natCast_pow]; rfl
  rw [e2, IntWalk.u64_in _ (by constructor <;> omega), u64_or_nat _ _ (by omega) (by omega), Nat.or_comm, nat_join (8 * k) _ _ (by rw [e]; exact Nat.mul_mod_left _ _) (by rw [← e]; exact ha), Nat.add_comm]

set_option maxHeartbeats 400000 in
theorem get_ok (h : ArAt w p A R) (x n : Nat) (hx : x + n ≤ A.n) (hn : n = 4 ∨ n = 8) (l : List Int) (hl : (A.b.drop x).take n = l) (hb : ∀ z ∈ l, 0 ≤ z ∧ z ≤ 255) :
    Calls Try.prog 28 #[.pointer (some ⟨p, 0, Option.none⟩), .int .i64 x, .int .i64 n] w fun e w' => e = .returned (.tuple #[.int .u64 (leNum l), .int .i64 0]) ∧ w = w' := by
  have WD := Lib.hid (word8_ok h x n hx hn)
  have hn8 : n ≤ 8 := by omega
  have hN := h.hn
  have h0 := Lib.hid h.hbl
  have H := Lib.hid h
  clear h
  go_enter Try.func28, Try.ntmps28
  go_wp2_with fail
  refine WD.out.mono ?_
  rintro e w1 ⟨rfl, rfl⟩
  go_wp2_with fail
  go_loop [10, 25] (fun u i => ∃ k : Nat, i = .int .i64 k ∧ k ≤ n ∧ u = .int .u64 (leNum (l.take k))) (fun _ i => n - (intOf i).toNat)
  case atStart => exact ⟨0, rfl, Nat.zero_le _, rfl⟩
  case round =>
    obtain ⟨k, rfl, hk, rfl⟩ := hrel
    by_cases hlt : k < n
    · have hcell : w.cell? ⟨R.buf, x + k, Option.none⟩ = some (.int .u8 (l.getD k 0)) := by
        rw [cell_of_row w _ _ _ _ _ H.out.hb, ← hl]
        have : x + k < A.b.length := by rw [h0.out]; omega
        simp [bytesOf, this, List.getD_eq_getElem?_getD, List.getElem?_take, hlt]
      have hc := hb (l.getD k 0) (by
        have hlen : l.length = n := by rw [← hl]; simp; rw [h0.out]; omega
        rw [List.getD_eq_getElem?_getD, List.getElem?_eq_getElem (by omega)]
        exact List.getElem_mem _)
      have hlen : l.length = n := by rw [← hl]; simp; rw [h0.out]; omega
      have hstep := leNum_take l k (by omega)
      have hlow := leNum_lt (l.take k) (fun z hz => hb z (List.mem_of_mem_take hz))
      rw [show (l.take k).length = k by simp; omega] at hlow
      generalize hz : l.getD k 0 = z at *
      obtain ⟨zn, rfl⟩ := Int.eq_ofNat_of_zero_le hc.1
      rw [Int.toNat_natCast] at hstep
      have hor := or_step (leNum (l.take k)) zn k (by omega) hlow (by omega)
      rw [← hstep] at hor
      have HOR := Lib.hid hor
      clear hor hstep hlow hz hlen
      go_wp2_with fail
      exact ⟨⟨k + 1, by go_num, by omega, by rw [HOR.out]⟩, by simp [intOf]; omega⟩
    · obtain rfl : k = n := by omega
      have hlen : l.length = k := by rw [← hl]; simp; rw [h0.out]; omega
      have HT := Lib.hid (show l.take k = l from List.take_of_length_le (by omega))
      clear hlen
      go_wp2_with fail
      go_ret2
      exact ⟨by rw [← HT.out]; rw [HT.out]; simp [HT.out], rfl⟩
end Go.Proofs.Ytmjnoboeffajbaa
