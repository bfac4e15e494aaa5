/- What a new arena is; the class of a number; the numbers that an arena tells. -/
import Derived.Test.YtmjnoboeffajbaaAs
namespace Go.Proofs.Ytmjnoboeffajbaa
open Go.RowKit Go.Maps
set_option linter.unusedSimpArgs false
set_option linter.unusedVariables false

variable {w : World} {p : Nat} {A : Ar} {R : Rp}

theorem info5 : (Try.prog.info? 5).map (fun i => (i.zero, i.size, i.bytes)) = some (some (.int .u8 0), 1, 1) := by kernel_rfl
theorem info3 : (Try.prog.info? 3).map (fun i => (i.zero, i.size, i.bytes)) = some (some (.int .i64 0), 1, 8) := by kernel_rfl
theorem zero28 (w : World) : (zeroValue 28).run Try.prog w = .ok (.slice Option.none 0 0) w := by kernel_rfl
theorem zero3 (w : World) : (zeroValue 3).run Try.prog w = .ok (.int .i64 0) w := by kernel_rfl

def zeros (n : Nat) : List Int := List.replicate n 0
theorem bytesOf_zeros (n : Nat) : madeCells #[.int .u8 0] n = bytesOf (zeros n) := by
  apply Array.ext
  · simp [madeCells, bytesOf, zeros]
  · intro i h1 h2
    simp [madeCells, bytesOf, zeros, Nat.mod_one]

theorem run_make22 (n : Nat) (h : n ≤ 140737488355328) (w : World) : (Instr.makeSlice 22 (.int .i64 n) (.int .i64 n)).run Try.prog w = .ok (.slice (some ⟨w.heap.size, 0, Option.none⟩) n n) (w.alloc (.cells (bytesOf (zeros n)) 5)) := by
  obtain ⟨i, hi, hz, hs, hb⟩ := info_parts info5
  have := run_make (P := Try.prog) w 22 5 i (.int .u8 0) Try.underlying22 hi hz .i64 .i64 n n (by omega) (by omega) (by rw [hb]; omega) (by omega)
  rw [this, hs]
  simp [Value.cells, bytesOf_zeros]

def clsFrom : Nat → Nat → Nat → Nat
  | 0, c, _ => c
  | g + 1, c, n => if c < n then clsFrom g (2 * c) n else c
/-- How many bytes a room has. -/
def cls (n : Int) : Nat := clsFrom 18 16 n.toNat

theorem clsFrom_done {g c n : Nat} (h : ¬ c < n) : clsFrom g c n = c := by cases g <;> simp [clsFrom, h]
theorem clsFrom_ge : ∀ (g c n : Nat), c ≤ clsFrom g c n
  | 0, c, n => Nat.le_refl _
  | g + 1, c, n => by
    unfold clsFrom
    split
    · have := clsFrom_ge g (2 * c) n; omega
    · exact Nat.le_refl _
theorem clsFrom_enough : ∀ (g c n : Nat), n ≤ c * 2 ^ g → n ≤ clsFrom g c n
  | 0, c, n, h => by simp only [clsFrom]; simpa using h
  | g + 1, c, n, h => by
    unfold clsFrom
    split
    · exact clsFrom_enough g (2 * c) n (by rw [Nat.pow_succ] at h; rw [Nat.mul_comm 2 c, Nat.mul_assoc, Nat.mul_comm 2]; exact h)
    · omega
theorem clsFrom_le : ∀ (g c n : Nat), clsFrom g c n ≤ max c (2 * n)
  | 0, c, n => by simp only [clsFrom]; omega
  | g + 1, c, n => by
    unfold clsFrom
    split
    · have := clsFrom_le g (2 * c) n; omega
    · omega
theorem clsFrom_cap : ∀ (g c n : Nat), n ≤ c * 2 ^ g → clsFrom g c n ≤ c * 2 ^ g
  | 0, c, n, h => by simp [clsFrom]
  | g + 1, c, n, h => by
    unfold clsFrom
    have e : c * 2 ^ (g + 1) = 2 * c * 2 ^ g := by rw [Nat.pow_succ, Nat.mul_comm 2 c, Nat.mul_assoc, Nat.mul_comm 2]
    split
    · rw [e]; exact clsFrom_cap g (2 * c) n (by rw [← e]; exact h)
    · rw [e]
      have := Nat.two_pow_pos g
      calc c ≤ 2 * c * 1 := by omega
        _ ≤ 2 * c * 2 ^ g := Nat.mul_le_mul_left _ this
theorem cls_ge (n : Int) : 16 ≤ cls n := clsFrom_ge _ _ _
theorem cls_enough {n : Int} (h : n ≤ 4194304) : n ≤ cls n := by
  have := clsFrom_enough 18 16 n.toNat (by omega)
  unfold cls; omega
theorem cls_le {n : Int} (h : n ≤ 4194304) : cls n ≤ 4194304 := by
  have := clsFrom_cap 18 16 n.toNat (by omega)
  unfold cls; omega

set_option maxHeartbeats 400000 in
theorem class_any (n : Int) (h : n ≤ 4194304) (w : World) : Calls Try.prog 25 #[.int .i64 n] w fun e w' => e = .returned (.int .i64 (cls n)) ∧ w = w' := by
  have C0 : Hid (clsFrom 18 16 n.toNat = cls n) := rfl
  go_enter Try.func25, Try.ntmps25
  go_wp2
  go_loop [3] (fun c => ∃ cN g : Nat, c = .int .i64 cN ∧ 16 ≤ cN ∧ cN ≤ 8388608 ∧ Hid (clsFrom g cN n.toNat = cls n ∧ n.toNat ≤ cN * 2 ^ g)) (fun c => (n - intOf c).toNat)
  case atStart => exact ⟨16, 18, rfl, by omega, by omega, ⟨C0.out, by omega⟩⟩
  case round =>
    obtain ⟨c, g, rfl, hc1, hc2, hg⟩ := hrel
    by_cases hlt : (c : Int) < n
    · go_wp2
      go_round
      case rel =>
        obtain ⟨h1, h2⟩ := hg.out
        cases g with
        | zero => exfalso; simp at h2; omega
        | succ g =>
          refine ⟨2 * c, g, by simp; omega, by omega, by omega, ?_, ?_⟩
          · rw [← h1]
            show _ = if c < n.toNat then _ else _
            rw [if_pos (by omega)]
          · rw [Nat.pow_succ] at h2; rw [Nat.mul_comm 2 c, Nat.mul_assoc, Nat.mul_comm 2]; exact h2
      case measure => simp [intOf]; omega
    · go_wp2
      go_ret
      refine ⟨?_, rfl⟩
      obtain ⟨h1, h2⟩ := hg.out
      rw [clsFrom_done (by omega)] at h1
      rw [← h1]; rfl

set_option maxHeartbeats 400000 in
theorem class_big (n : Int) (h : 4194304 < n) (w : World) : Calls Try.prog 25 #[.int .i64 n] w fun e w' => e = .returned (.int .i64 0) ∧ w = w' := by
  go_enter Try.func25, Try.ntmps25
  go_wp2
  go_ret
  exact ⟨rfl, rfl⟩

/-! ### a new arena -/
def Ar.fresh (n : Nat) : Ar := ⟨n, 0, 0, zeros n, fun _ => Option.none, fun _ => []⟩

def NewPost (n : Nat) (w : World) (e : Ending) (w' : World) : Prop :=
  ∃ p R, e = .returned (.tuple #[.pointer (some ⟨p, 0, Option.none⟩), .int .i64 0]) ∧ ArAt w' p (Ar.fresh n) R ∧ (∀ k, fp R p k → w.heap.size ≤ k) ∧ Touch (fun _ => False) w w'

theorem new_at (n : Nat) (w : World) (h : n ≤ 4194304) :
    NewPost n w (.returned (.tuple #[.pointer (some ⟨w.heap.size + 3, 0, Option.none⟩), .int .i64 0]))
      ((((w.alloc (Obj.cells (bytesOf (zeros n)) 5)).alloc (Obj.map #[] 0)).alloc (Obj.map #[] 0)).alloc
        (Obj.cells #[.slice (some ⟨w.heap.size, 0, Option.none⟩) n n, .int .i64 0, .int .i64 0, .map (some (w.heap.size + 1)), .map (some (w.heap.size + 2))] 94)) := by
  have t1 : Touch (fun _ => False) w (w.alloc (Obj.cells (bytesOf (zeros n)) 5)) := Touch.alloc _ _ _
  generalize h1 : w.alloc (Obj.cells (bytesOf (zeros n)) 5) = w1 at *
  have z1 : w1.heap.size = w.heap.size + 1 := by rw [← h1]; simp
  have e1 : w1.heap[w.heap.size]? = some (.cells (bytesOf (zeros n)) 5 (0, 0)) := by rw [← h1]; exact (MapKept.heap_alloc w _).1
  have t2 : Touch (fun _ => False) w1 (w1.alloc (Obj.map #[] 0)) := Touch.alloc _ _ _
  have m2 : MapIs (w1.alloc (Obj.map #[] 0)) w1.heap.size [] := MapIs_made w1
  generalize h2 : w1.alloc (Obj.map #[] 0) = w2 at *
  have z2 : w2.heap.size = w1.heap.size + 1 := by rw [← h2]; simp
  have t3 : Touch (fun _ => False) w2 (w2.alloc (Obj.map #[] 0)) := Touch.alloc _ _ _
  have m3 : MapIs (w2.alloc (Obj.map #[] 0)) w2.heap.size [] := MapIs_made w2
  generalize h3 : w2.alloc (Obj.map #[] 0) = w3 at *
  have z3 : w3.heap.size = w2.heap.size + 1 := by rw [← h3]; simp
  have t4 := Touch.alloc (fun _ => False) w3 (Obj.cells #[.slice (some ⟨w.heap.size, 0, Option.none⟩) n n, .int .i64 0, .int .i64 0, .map (some (w.heap.size + 1)), .map (some (w.heap.size + 2))] 94)
  have e4 := (MapKept.heap_alloc w3 (Obj.cells #[.slice (some ⟨w.heap.size, 0, Option.none⟩) n n, .int .i64 0, .int .i64 0, .map (some (w.heap.size + 1)), .map (some (w.heap.size + 2))] 94)).1
  refine ⟨w.heap.size + 3, ⟨w.heap.size, w.heap.size + 1, w.heap.size + 2, [], []⟩, rfl, ?_, ?_, t1.trans (t2.trans (t3.trans t4))⟩
  · refine ⟨?_, ?_, by simp [Ar.fresh, zeros], ?_, ?_, by simp, fun x => rfl, fun c => rfl, fun x hx => (by cases hx), by simp, by simp, by simp, h, Nat.zero_le _, fun x c hx => (by cases hx), fun c x hx => (by cases hx)⟩
    · rw [show w.heap.size + 3 = w3.heap.size by omega]; exact e4
    · exact t4.heap (fun h => h) (t3.heap (fun h => h) (t2.heap (fun h => h) e1))
    · rw [z1] at m2; exact t4.map (fun h => h) (t3.map (fun h => h) m2)
    · rw [show w2.heap.size = w.heap.size + 2 by omega] at m3; exact t4.map (fun h => h) m3
  · intro k hk
    rcases hk with rfl | rfl | rfl | rfl | ⟨x, hx, _⟩
    · omega
    · exact Nat.le_refl _
    · simp
    · simp
    · cases hx

set_option maxHeartbeats 400000 in
theorem new_ok (n : Nat) (w : World) (h : n ≤ 4194304) : Calls Try.prog 17 #[.int .i64 n] w (NewPost n w) := by
  have hmm := @run_makeMap Try.prog
  have hmk := run_make22 n (by omega)
  have FIN := Lib.hid (new_at n w h)
  go_enter Try.func17, Try.ntmps17
  go_wp2
  go_ret2
  exact FIN.out

set_option maxHeartbeats 400000 in
theorem new_err (n : Int) (w : World) (h : n < 0 ∨ 4194304 < n) : Calls Try.prog 17 #[.int .i64 n] w fun e w' => e = .returned (.tuple #[.pointer Option.none, .int .i64 1]) ∧ w = w' := by
  by_cases h0 : n < 0
  · go_enter Try.func17, Try.ntmps17
    go_wp2
    go_ret2
    exact ⟨rfl, rfl⟩
  · have h1 : 4194304 < n := by omega
    go_enter Try.func17, Try.ntmps17
    go_wp2
    go_ret2
    exact ⟨rfl, rfl⟩

/-! ### what it tells -/
theorem height_any (h : ArAt w p A R) : Calls Try.prog 19 #[.pointer (some ⟨p, 0, Option.none⟩)] w fun e w' => e = .returned (.int .i64 A.height) ∧ w = w' := by
  have c1 := h.c1
  go_enter Try.func19, Try.ntmps19
  go_wp2
  go_ret
  exact ⟨rfl, rfl⟩
theorem live_any (h : ArAt w p A R) : Calls Try.prog 20 #[.pointer (some ⟨p, 0, Option.none⟩)] w fun e w' => e = .returned (.int .i64 A.live) ∧ w = w' := by
  have c2 := h.c2
  go_enter Try.func20, Try.ntmps20
  go_wp2
  go_ret
  exact ⟨rfl, rfl⟩
theorem size_any (h : ArAt w p A R) : Calls Try.prog 23 #[.pointer (some ⟨p, 0, Option.none⟩)] w fun e w' => e = .returned (.int .i64 A.n) ∧ w = w' := by
  have c0 := h.c0
  go_enter Try.func23, Try.ntmps23
  go_wp2
  go_ret
  exact ⟨rfl, rfl⟩
theorem room_any (h : ArAt w p A R) (x : Int) : Calls Try.prog 24 #[.pointer (some ⟨p, 0, Option.none⟩), .int .i64 x] w fun e w' => e = .returned (.tuple #[.int .i64 ((A.taken x).getD 0), .bool (A.taken x).isSome]) ∧ w = w' := by
  have c3 := h.c3
  have hlk := run_lookup_kv_ok (P := Try.prog) (t := 91) Try.underlying91 Try.underlying3 zero3 h.ht x
  rw [h.ta x] at hlk
  cases hx : A.taken x with
  | none =>
    rw [hx] at hlk
    simp only [Option.map_none, Option.getD_none, Option.isSome_none] at hlk
    go_enter Try.func24, Try.ntmps24
    go_wp2
    go_ret2
    exact ⟨rfl, rfl⟩
  | some c =>
    rw [hx] at hlk
    simp only [Option.map_some, Option.getD_some, Option.isSome_some] at hlk
    clear hx
    go_enter Try.func24, Try.ntmps24
    go_wp2
    go_ret2
    exact ⟨rfl, rfl⟩
end Go.Proofs.Ytmjnoboeffajbaa
