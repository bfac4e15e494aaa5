/- Numbers among an arena's bytes; what a stack is in memory; what its inner reader and writer of a cell do. -/
import Derived.Test.YtmjnoboeffajbaaAq
import Derived.Deep.RegionWith
namespace Go.Proofs.Ytmjnoboeffajbaa
open Go.RowKit Go.Maps
set_option linter.unusedSimpArgs false
set_option linter.unusedVariables false

/-- The number of n bytes from a place on. -/
def rd (n : Nat) (b : List Int) (x : Nat) : Nat := leNum ((b.drop x).take n)
def Good (b : List Int) : Prop := ∀ z ∈ b, 0 ≤ z ∧ z ≤ 255

theorem good_zeros (n : Nat) : Good (zeros n) := by
  intro z hz
  have := List.eq_of_mem_replicate hz
  omega
theorem good_le : ∀ (n v : Nat), Good (leBytes n v)
  | 0, _, z, hz => by cases hz
  | n + 1, v, z, hz => by
    rcases List.mem_cons.1 hz with rfl | hz
    · omega
    · exact good_le n _ z hz
theorem good_over {b l : List Int} {x : Nat} (hb : Good b) (hl : Good l) : Good (over b x l) := by
  intro z hz
  simp only [over, List.mem_append] at hz
  rcases hz with hz | hz | hz
  · exact hb z (List.mem_of_mem_take hz)
  · exact hl z hz
  · exact hb z (List.mem_of_mem_drop hz)

theorem leNum_le : ∀ (n v : Nat), v < 256 ^ n → leNum (leBytes n v) = v
  | 0, v, h => by simp at h; simp [leBytes, leNum, h]
  | n + 1, v, h => by
    have := leNum_le n (v / 256) (by rw [Nat.pow_succ] at h; exact Nat.div_lt_of_lt_mul (by rw [Nat.mul_comm]; exact h))
    simp only [leBytes, leNum, this, Int.toNat_natCast]
    omega

theorem rd_over_same {b : List Int} {x n v : Nat} (hx : x + n ≤ b.length) (hv : v < 256 ^ n) : rd n (over b x (leBytes n v)) x = v := by
  have e : ((over b x (leBytes n v)).drop x).take n = leBytes n v := by
    have hlx : (b.take x).length = x := by simp; omega
    simp only [over]
    rw [List.drop_append_of_le_length (by omega), List.drop_of_length_le (by omega), List.nil_append, List.take_append_of_le_length (by rw [leBytes_length]; exact Nat.le_refl _), List.take_of_length_le (by rw [leBytes_length]; exact Nat.le_refl _)]
  rw [rd, e, leNum_le n v hv]

theorem over_get {b l : List Int} {x : Nat} (hx : x + l.length ≤ b.length) (i : Nat) (h : i < x ∨ x + l.length ≤ i) : (over b x l)[i]? = b[i]? := by
  have hlx : (b.take x).length = x := by simp; omega
  simp only [over, List.getElem?_append, hlx]
  by_cases h1 : i < x
  · simp [h1, List.getElem?_take]
  · have h2 : ¬ i - x < l.length := by omega
    simp only [h1, h2, if_false, List.getElem?_drop]
    congr 1; omega

theorem rd_over_ne {b l : List Int} {x n y : Nat} (hx : x + l.length ≤ b.length) (h : y + n ≤ x ∨ x + l.length ≤ y) : rd n (over b x l) y = rd n b y := by
  have e : ((over b x l).drop y).take n = (b.drop y).take n := by
    apply List.ext_getElem?
    intro i
    simp only [List.getElem?_take, List.getElem?_drop]
    by_cases hi : i < n
    · simp only [hi, if_true]
      exact over_get hx _ (by omega)
    · simp [hi]
  rw [rd, e, rd]

theorem rd_lt {b : List Int} (hb : Good b) (n x : Nat) : rd n b x < 256 ^ n := by
  have h := leNum_lt ((b.drop x).take n) (fun z hz => hb z (List.mem_of_mem_drop (List.mem_of_mem_take hz)))
  exact Nat.lt_of_lt_of_le h (Nat.pow_le_pow_right (by omega) (List.length_take_le _ _))

theorem rd_take (b : List Int) (x : Nat) : ∀ n z, z ∈ (b.drop x).take n → z ∈ b := fun n z hz => List.mem_of_mem_drop (List.mem_of_mem_take hz)

theorem put8 {w : World} {p : Nat} {A : Ar} {R : Rp} (h : ArAt w p A R) (x v : Nat) (hx : x + 8 ≤ A.n) (hv : v < 18446744073709551616) :
    Calls Try.prog 29 #[.pointer (some ⟨p, 0, Option.none⟩), .int .i64 x, .int .i64 8, .int .u64 v] w fun e w' => e = .returned (.int .i64 0) ∧ ArAt w' p { A with b := over A.b x (leBytes 8 v) } R ∧ Touch (· = R.buf) w w' :=
  put_ok h x 8 v hx (.inr rfl) hv
theorem put4 {w : World} {p : Nat} {A : Ar} {R : Rp} (h : ArAt w p A R) (x v : Nat) (hx : x + 4 ≤ A.n) (hv : v < 18446744073709551616) :
    Calls Try.prog 29 #[.pointer (some ⟨p, 0, Option.none⟩), .int .i64 x, .int .i64 4, .int .u64 v] w fun e w' => e = .returned (.int .i64 0) ∧ ArAt w' p { A with b := over A.b x (leBytes 4 v) } R ∧ Touch (· = R.buf) w w' :=
  put_ok h x 4 v hx (.inl rfl) hv
theorem get8 {w : World} {p : Nat} {A : Ar} {R : Rp} (h : ArAt w p A R) (x : Nat) (hx : x + 8 ≤ A.n) (hb : Good A.b) :
    Calls Try.prog 28 #[.pointer (some ⟨p, 0, Option.none⟩), .int .i64 x, .int .i64 8] w fun e w' => e = .returned (.tuple #[.int .u64 (rd 8 A.b x), .int .i64 0]) ∧ w' = w :=
  (get_ok h x 8 hx (.inr rfl) _ rfl (fun z hz => hb z (rd_take _ _ _ _ hz))).mono fun _ _ ⟨h1, h2⟩ => ⟨h1, h2.symm⟩
theorem get4 {w : World} {p : Nat} {A : Ar} {R : Rp} (h : ArAt w p A R) (x : Nat) (hx : x + 4 ≤ A.n) (hb : Good A.b) :
    Calls Try.prog 28 #[.pointer (some ⟨p, 0, Option.none⟩), .int .i64 x, .int .i64 4] w fun e w' => e = .returned (.tuple #[.int .u64 (rd 4 A.b x), .int .i64 0]) ∧ w' = w :=
  (get_ok h x 4 hx (.inl rfl) _ rfl (fun z hz => hb z (rd_take _ _ _ _ hz))).mono fun _ _ ⟨h1, h2⟩ => ⟨h1, h2.symm⟩

/-! ### a stack -/
structure Sk where
  o : Nat
  cells : Nat
  h : Nat
  closed : Bool

def Sk.row (S : Sk) (p : Nat) : Array Value := #[.pointer (some ⟨p, 0, Option.none⟩), .int .i64 S.o, .int .i64 S.cells, .int .i64 S.h, .bool S.closed]

structure SkAt (w : World) (q p : Nat) (S : Sk) : Prop where
  hq : w.heap[q]? = some (.cells (S.row p) 97 (0, 0))
  hh : S.h ≤ S.cells
  hc : S.cells ≤ 65536
  ho : S.o ≤ 4194304

variable {w w' : World} {q p : Nat} {S : Sk} {A : Ar} {R : Rp}

namespace SkAt
theorem cell (h : SkAt w q p S) (j : Nat) : w.cell? ⟨q, j, Option.none⟩ = (S.row p)[j]? := cell_of_row w q j _ _ _ h.hq
theorem c0 (h : SkAt w q p S) : w.cell? ⟨q, 0, Option.none⟩ = some (.pointer (some ⟨p, 0, Option.none⟩)) := h.cell 0
theorem c1 (h : SkAt w q p S) : w.cell? ⟨q, 1, Option.none⟩ = some (.int .i64 S.o) := h.cell 1
theorem c2 (h : SkAt w q p S) : w.cell? ⟨q, 2, Option.none⟩ = some (.int .i64 S.cells) := h.cell 2
theorem c3 (h : SkAt w q p S) : w.cell? ⟨q, 3, Option.none⟩ = some (.int .i64 S.h) := h.cell 3
theorem c4 (h : SkAt w q p S) : w.cell? ⟨q, 4, Option.none⟩ = some (.bool S.closed) := h.cell 4
theorem fz (h : SkAt w q p S) (j : Nat) : w.frozen? ⟨q, j, Option.none⟩ = false := by simp [World.frozen?, h.hq]
theorem ltq (h : SkAt w q p S) : q < w.heap.size := (Array.getElem?_eq_some_iff.1 h.hq).1
theorem kept (h : SkAt w q p S) {F : Nat → Prop} (t : Touch F w w') (hF : ¬ F q) : SkAt w' q p S := ⟨t.heap hF h.hq, h.hh, h.hc, h.ho⟩
theorem drewN (h : SkAt w q p S) (n : Nat) : SkAt (w.drewN n) q p S := ⟨h.hq, h.hh, h.hc, h.ho⟩
/-- A stack is none of an arena's blocks. -/
theorem off (h : SkAt w q p S) (a : ArAt w p A R) : ¬ fp R p q := by
  intro hf
  have hq := h.hq
  rcases hf with e | e | e | e | ⟨x, hx, hk⟩
  · rw [e, a.hp] at hq; simp at hq
  · rw [e, a.hb] at hq; simp at hq
  · obtain ⟨es, c, hb, _⟩ := a.ht
    rw [e, hb] at hq; cases hq
  · obtain ⟨es, c, hb, _⟩ := a.hg
    rw [e, hb] at hq; cases hq
  · obtain ⟨cur, hc⟩ := ArAt.own_heap (a.own x hx) hk
    rw [hc] at hq; simp at hq
theorem stored (h : SkAt w q p S) {S' : Sk} (j : Nat) (v : Value) (e : (S.row p).setIfInBounds j v = S'.row p) (h1 : S'.h ≤ S'.cells) (h2 : S'.cells ≤ 65536) (h3 : S'.o ≤ 4194304) : SkAt (w.setCell ⟨q, j, Option.none⟩ v) q p S' := by
  refine ⟨?_, h1, h2, h3⟩
  rw [← e]
  simp [World.setCell, Array.getElem?_modify, h.hq]
end SkAt

set_option maxHeartbeats 400000 in
theorem sput_ok (h : SkAt w q p S) (a : ArAt w p A R) (i v : Nat) (hi : i < S.cells) (ho : S.o + 8 * S.cells ≤ A.n) (hv : v < 18446744073709551616) :
    Calls Try.prog 57 #[.pointer (some ⟨q, 0, Option.none⟩), .int .i64 i, .int .u64 v] w fun e w' => e = .returned (.tuple #[]) ∧ ArAt w' p { A with b := over A.b (S.o + 8 * i) (leBytes 8 v) } R ∧ Touch (· = R.buf) w w' := by
  have c0 := h.c0
  have c1 := h.c1
  have hn := a.hn
  have PT := Lib.hid (put8 a.drew (S.o + 8 * i) v (by omega) hv)
  rw [show ((S.o + 8 * i : Nat) : Int) = (S.o : Int) + 8 * (i : Int) by omega] at PT
  have hS := h.hc
  have e1 : IntKind.i64.wrap (8 * (i : Int)) = 8 * (i : Int) := IntWalk.i64_in _ (by omega)
  have e2 : IntKind.i64.wrap ((S.o : Int) + 8 * (i : Int)) = (S.o : Int) + 8 * (i : Int) := IntWalk.i64_in _ (by omega)
  have td : Touch (· = R.buf) w w.drew := Touch.drew _ _
  go_enter Try.func57, Try.ntmps57
  go_wp2_with fail
  go_region_with (go_at_call 29; (with_reducible refine PT.out.mono ?_); rintro e w2 ⟨rfl, a2, t2⟩)
  all_goals
    go_wp2_with fail
    go_end0
    exact ⟨rfl, a2, td.trans t2⟩

set_option maxHeartbeats 400000 in
theorem sword_ok (h : SkAt w q p S) (a : ArAt w p A R) (i : Nat) (hi : i < S.cells) (ho : S.o + 8 * S.cells ≤ A.n) (hb : Good A.b) :
    Calls Try.prog 58 #[.pointer (some ⟨q, 0, Option.none⟩), .int .i64 i] w fun e w' => e = .returned (.int .u64 (rd 8 A.b (S.o + 8 * i))) ∧ ∃ n, w' = w.drewN n := by
  have c0 := h.c0
  have c1 := h.c1
  have hn := a.hn
  have GT := Lib.hid (fun n => get8 (a.drewN n) (S.o + 8 * i) (by omega) hb)
  rw [show ((S.o + 8 * i : Nat) : Int) = (S.o : Int) + 8 * (i : Int) by omega] at GT
  have hS := h.hc
  have e1 : IntKind.i64.wrap (8 * (i : Int)) = 8 * (i : Int) := IntWalk.i64_in _ (by omega)
  have e2 : IntKind.i64.wrap ((S.o : Int) + 8 * (i : Int)) = (S.o : Int) + 8 * (i : Int) := IntWalk.i64_in _ (by omega)
  go_enter Try.func58, Try.ntmps58
  go_wp2_with fail
  go_quiet ((go_at_call 28; exact Calls.quiet_of_same (GT.out _)))
  go_wp2_with fail
  go_ret
  exact ⟨rfl, nq, rfl⟩
end Go.Proofs.Ytmjnoboeffajbaa
