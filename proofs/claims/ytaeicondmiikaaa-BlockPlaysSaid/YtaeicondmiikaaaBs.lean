/- What a block store is in memory, told as a plain record; what its inner operation count does. Conditions: none beyond those that each theorem names. -/
import Derived.Test.YtaeicondmiikaaaMp
import Derived.BigRegion
import Derived.BigQuiet
import Derived.Deep.QuietTactic
namespace Go.Proofs.Ytaeicondmiikaaa
open Go.RowKit Go.Maps
set_option linter.unusedSimpArgs false
set_option linter.unusedVariables false

def bytesOf (l : List Int) : Array Value := (l.map (Value.int .u8)).toArray

structure St where
  size : Nat
  cap : Nat
  peak : Nat
  ops : Nat
  fail : Int
  failed : Bool
  m : List (Int × Nat × List Int)

def St.kv (S : St) : KV := S.m.map fun x => (x.1, Value.slice (some ⟨x.2.1, 0, Option.none⟩) S.size S.size)

def St.cells (S : St) (bm : Nat) : Array Value := #[.int .i64 S.size, .int .i64 S.cap, .int .i64 S.peak, .map (some bm), .int .i64 S.ops, .int .i64 S.fail, .bool S.failed]

structure StoreAt (w : World) (p bm : Nat) (S : St) : Prop where
  hp : w.heap[p]? = some (.cells (S.cells bm) 54 (0, 0))
  hm : MapIs w bm S.kv
  hb : ∀ x ∈ S.m, w.heap[x.2.1]? = some (.cells (bytesOf x.2.2) 5 (0, 0))
  hl : ∀ x ∈ S.m, x.2.2.length = S.size
  hk : (S.m.map (·.1)).Nodup
  hn : (S.m.map (·.2.1)).Nodup
  hs : 16 ≤ S.size ∧ S.size ≤ 1024
  hc : S.m.length ≤ S.cap ∧ S.cap ≤ 4096 ∧ S.peak ≤ 4096

/-- The blocks of a store. -/
def fp (S : St) (p bm : Nat) (k : Nat) : Prop := k = p ∨ k = bm ∨ k ∈ S.m.map (·.2.1)

namespace StoreAt
variable {w w' : World} {p bm : Nat} {S : St}

theorem cell (h : StoreAt w p bm S) (j : Nat) : w.cell? ⟨p, j, Option.none⟩ = (S.cells bm)[j]? := cell_of_row w p j _ _ _ h.hp
theorem c0 (h : StoreAt w p bm S) : w.cell? ⟨p, 0, Option.none⟩ = some (.int .i64 S.size) := h.cell 0
theorem c1 (h : StoreAt w p bm S) : w.cell? ⟨p, 1, Option.none⟩ = some (.int .i64 S.cap) := h.cell 1
theorem c2 (h : StoreAt w p bm S) : w.cell? ⟨p, 2, Option.none⟩ = some (.int .i64 S.peak) := h.cell 2
theorem c3 (h : StoreAt w p bm S) : w.cell? ⟨p, 3, Option.none⟩ = some (.map (some bm)) := h.cell 3
theorem c4 (h : StoreAt w p bm S) : w.cell? ⟨p, 4, Option.none⟩ = some (.int .i64 S.ops) := h.cell 4
theorem c5 (h : StoreAt w p bm S) : w.cell? ⟨p, 5, Option.none⟩ = some (.int .i64 S.fail) := h.cell 5
theorem c6 (h : StoreAt w p bm S) : w.cell? ⟨p, 6, Option.none⟩ = some (.bool S.failed) := h.cell 6
theorem fz (h : StoreAt w p bm S) (j : Nat) : w.frozen? ⟨p, j, Option.none⟩ = false := by simp [World.frozen?, h.hp]
theorem ltp (h : StoreAt w p bm S) : p < w.heap.size := (Array.getElem?_eq_some_iff.1 h.hp).1
theorem ltm (h : StoreAt w p bm S) : bm < w.heap.size := h.hm.lt
theorem ltb (h : StoreAt w p bm S) : ∀ x ∈ S.m, x.2.1 < w.heap.size := fun x hx => (Array.getElem?_eq_some_iff.1 (h.hb x hx)).1
theorem nepm (h : StoreAt w p bm S) : p ≠ bm := by
  rintro rfl
  obtain ⟨es, c, hb, _⟩ := h.hm
  rw [h.hp] at hb; cases hb
theorem nebp (h : StoreAt w p bm S) : ∀ x ∈ S.m, x.2.1 ≠ p := by
  intro x hx e
  have := h.hb x hx
  rw [e, h.hp] at this
  simp at this
theorem nebm (h : StoreAt w p bm S) : ∀ x ∈ S.m, x.2.1 ≠ bm := by
  intro x hx e
  obtain ⟨es, c, hb, _⟩ := h.hm
  rw [← e, h.hb x hx] at hb; cases hb

/-- What leaves a store's blocks leaves the store. -/
theorem kept (h : StoreAt w p bm S) {F : Nat → Prop} (t : Touch F w w') (hF : ∀ k, fp S p bm k → ¬ F k) : StoreAt w' p bm S where
  hp := t.heap (hF p (.inl rfl)) h.hp
  hm := t.map (hF bm (.inr (.inl rfl))) h.hm
  hb x hx := t.heap (hF _ (.inr (.inr (List.mem_map.2 ⟨x, hx, rfl⟩)))) (h.hb x hx)
  hl := h.hl
  hk := h.hk
  hn := h.hn
  hs := h.hs
  hc := h.hc

theorem drewN (h : StoreAt w p bm S) (n : Nat) : StoreAt (w.drewN n) p bm S := ⟨h.hp, h.hm, h.hb, h.hl, h.hk, h.hn, h.hs, h.hc⟩
theorem drew (h : StoreAt w p bm S) : StoreAt w.drew p bm S := ⟨h.hp, h.hm, h.hb, h.hl, h.hk, h.hn, h.hs, h.hc⟩

/-- A field of it is stored: whatever record has these cells, and is as it was else. -/
theorem stored (h : StoreAt w p bm S) {S' : St} (j : Nat) (v : Value) (hc' : (S.cells bm).setIfInBounds j v = S'.cells bm) (e1 : S'.m = S.m) (e2 : S'.size = S.size)
    (hc : S'.m.length ≤ S'.cap ∧ S'.cap ≤ 4096 ∧ S'.peak ≤ 4096) : StoreAt (w.setCell ⟨p, j, Option.none⟩ v) p bm S' := by
  have t : Touch (· = p) w (w.setCell ⟨p, j, Option.none⟩ v) := Touch.cell1 w p j v
  have ekv : S'.kv = S.kv := by simp [St.kv, e1, e2]
  refine ⟨?_, ?_, ?_, ?_, ?_, ?_, ?_, hc⟩
  · rw [← hc']
    simp [World.setCell, Array.getElem?_modify, h.hp]
  · rw [ekv]; exact t.map (fun e => h.nepm e.symm) h.hm
  · intro x hx; rw [e1] at hx
    exact t.heap (h.nebp x hx) (h.hb x hx)
  · intro x hx; rw [e1] at hx; rw [e2]; exact h.hl x hx
  · rw [e1]; exact h.hk
  · rw [e1]; exact h.hn
  · rw [e2]; exact h.hs
end StoreAt

def St.fails (S : St) : Bool := decide (0 ≤ S.fail) && decide (S.fail ≤ S.ops)
/-- Behind a counted operation. -/
def St.did (S : St) : St := { S with ops := S.ops + 1, failed := S.failed || S.fails }

theorem ex27 : Extern.find Try.f27 = some (Extern.Atomic.update (Op.intArith .add) .i64 true) := by kernel_rfl
theorem ex26 : Extern.find Try.f26 = some (Extern.Atomic.loadT (.int .i64)) := by kernel_rfl
theorem add27 (p o : Nat) (x : Nat) (w : World) (hx2 : x < 4611686018427387904) (hc : w.cell? ⟨p, o, Option.none⟩ = some (.int .i64 x)) (hf : w.frozen? ⟨p, o, Option.none⟩ = false) :
    (callFunc 27 #[.pointer (some ⟨p, o, Option.none⟩), .int .i64 1]).run Try.prog w = .ok (.value (.int .i64 (x + 1))) (w.setCell ⟨p, o, Option.none⟩ (.int .i64 (x + 1))) :=
  run_call_add (fn := Try.f27) (by kernel_rfl) (by kernel_rfl) (by kernel_rfl) (by kernel_rfl) .i64 ex27 hc hf (by
    simp [Op.intArith]; rw [IntWalk.i64_in _ (by omega)])

variable {w : World} {p bm : Nat} {S : St}

def OpPost (p bm : Nat) (S : St) (w : World) (e : Ending) (w' : World) : Prop := e = .returned (.bool (!S.fails)) ∧ StoreAt w' p bm S.did ∧ Touch (· = p) w w' ∧ w'.heap.size = w.heap.size

set_option maxHeartbeats 400000 in
theorem op_any (h : StoreAt w p bm S) (ho : S.ops < 4611686018427387904) : Calls Try.prog 21 #[.pointer (some ⟨p, 0, Option.none⟩)] w (OpPost p bm S w) := by
  have hadd := add27 p 4 S.ops w ho h.c4 (h.fz 4)
  have c5 := h.c5
  have c6 := h.c6
  have f6 := h.fz 6
  have t1 : Touch (· = p) w (w.setCell ⟨p, 4, Option.none⟩ (.int .i64 (S.ops + 1))) := Touch.cell1 w p _ _
  have s1 : StoreAt (w.setCell ⟨p, 4, Option.none⟩ (.int .i64 (S.ops + 1))) p bm { S with ops := S.ops + 1 } :=
    h.stored 4 _ (by simp [St.cells]) rfl rfl h.hc
  by_cases h0 : 0 ≤ S.fail
  · by_cases h1 : S.fail ≤ S.ops
    · have t2 : Touch (· = p) (w.setCell ⟨p, 4, Option.none⟩ (.int .i64 (S.ops + 1))) ((w.setCell ⟨p, 4, Option.none⟩ (.int .i64 (S.ops + 1))).setCell ⟨p, 6, Option.none⟩ (.bool true)) := Touch.cell1 _ p _ _
      have s2 : StoreAt ((w.setCell ⟨p, 4, Option.none⟩ (.int .i64 (S.ops + 1))).setCell ⟨p, 6, Option.none⟩ (.bool true)) p bm S.did :=
        s1.stored 6 _ (by simp [St.cells, St.did, St.fails, h0, h1]) rfl rfl h.hc
      have fin : OpPost p bm S w (.returned (.bool false)) ((w.setCell ⟨p, 4, Option.none⟩ (.int .i64 (S.ops + 1))).setCell ⟨p, 6, Option.none⟩ (.bool true)) := ⟨by simp [St.fails, h0, h1], s2, t1.trans t2, by simp [World.setCell]⟩
      have FIN := Lib.hid fin
      clear fin s2 t2 s1 t1
      go_enter Try.func21, Try.ntmps21
      go_wp2
      go_ret
      exact FIN.out
    · have s2 : StoreAt (w.setCell ⟨p, 4, Option.none⟩ (.int .i64 (S.ops + 1))) p bm S.did := by
        have : S.did = { S with ops := S.ops + 1 } := by simp [St.did, St.fails, h0, h1]
        rw [this]; exact s1
      have FIN := Lib.hid (show OpPost p bm S w (.returned (.bool true)) (w.setCell ⟨p, 4, Option.none⟩ (.int .i64 (S.ops + 1))) from ⟨by simp [St.fails, h0, h1], s2, t1, by simp [World.setCell]⟩)
      clear s2 s1 t1
      go_enter Try.func21, Try.ntmps21
      go_wp2
      go_ret
      exact FIN.out
  · have s2 : StoreAt (w.setCell ⟨p, 4, Option.none⟩ (.int .i64 (S.ops + 1))) p bm S.did := by
      have : S.did = { S with ops := S.ops + 1 } := by simp [St.did, St.fails, h0]
      rw [this]; exact s1
    have FIN := Lib.hid (show OpPost p bm S w (.returned (.bool true)) (w.setCell ⟨p, 4, Option.none⟩ (.int .i64 (S.ops + 1))) from ⟨by simp [St.fails, h0], s2, t1, by simp [World.setCell]⟩)
    clear s2 s1 t1
    go_enter Try.func21, Try.ntmps21
    go_wp2
    go_ret
    exact FIN.out
end Go.Proofs.Ytaeicondmiikaaa
