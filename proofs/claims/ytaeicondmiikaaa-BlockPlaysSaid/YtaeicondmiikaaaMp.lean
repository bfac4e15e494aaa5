/- Plain laws on a map whose keys are Go ints: its block told as a list of keys and values; what a look-up, a store, a delete and len do to it. Conditions: the map's key type is int. -/
import Derived.Test.YtaeicondmiikaaaRows
import Derived.Maps.Own
import Derived.Maps.OwnSet
import Derived.WalkKit
import Derived.WalkSpells
import Derived.WalkLawsBesides
import Derived.Handy
import Derived.Lib.Hide
namespace Go.Proofs.Ytaeicondmiikaaa
open Go.RowKit Go.Maps
set_option linter.unusedSimpArgs false
set_option linter.unusedVariables false

abbrev KV := List (Int × Value)

def mget : KV → Int → Option Value
  | [], _ => Option.none
  | (k, v) :: r, x => if k = x then some v else mget r x

def mput : KV → Int → Value → KV
  | [], x, u => [(x, u)]
  | (k, v) :: r, x, u => if k = x then (x, u) :: r else (k, v) :: mput r x u

def mdel : KV → Int → KV
  | [], _ => []
  | (k, v) :: r, x => if k = x then r else (k, v) :: mdel r x

/-- Block b of w is a map with int keys that holds m, in this order. -/
def MapIs (w : World) (b : Nat) (m : KV) : Prop :=
  ∃ es clock, w.heap[b]? = some (.map es clock) ∧ es.toList.map (fun e => (e.key, e.val)) = m.map (fun x => (Value.int .i64 x.1, x.2))

/-- Where a key stands. -/
def mfind : KV → Int → Nat → Option (Nat × Value)
  | [], _, _ => Option.none
  | (k, v) :: r, x, i => if k = x then some (i, v) else mfind r x (i + 1)

theorem mfind_get : ∀ (m : KV) (x : Int) (i : Nat), (mfind m x i).map (·.2) = mget m x
  | [], _, _ => rfl
  | (k, v) :: r, x, i => by
    unfold mfind mget
    split
    · rfl
    · exact mfind_get r x (i + 1)

theorem findNow_is : ∀ (m : KV) (l : List MapEntry) (x : Int) (i : Nat), l.map (fun e => (e.key, e.val)) = m.map (fun x => (Value.int .i64 x.1, x.2)) →
    Instr.findNow (.int .i64) (.int .i64 x) l i = some (mfind m x i)
  | [], [], _, _, _ => rfl
  | [], _ :: _, _, _, h => by simp at h
  | _ :: _, [], _, _, h => by simp at h
  | (k, v) :: m, e :: l, x, i, h => by
    simp only [List.map_cons, List.cons.injEq, Prod.mk.injEq] at h
    obtain ⟨⟨hk, hv⟩, hr⟩ := h
    unfold Instr.findNow
    rw [hk]
    simp only [Instr.sameNow, if_true, mfind]
    by_cases hx : k = x
    · subst hx
      simp [hv]
    · have hne : (x == k) = false := by simpa using fun e => hx e.symm
      simp only [hne, hx, if_false]
      exact findNow_is m l x (i + 1) hr

variable {P : Program} {w : World} {b : Nat} {m : KV} {t k e : TypeId}

theorem run_findKey_kv (hk : P.underlying k = some (.int .i64)) {es : Array MapEntry} (h : es.toList.map (fun e => (e.key, e.val)) = m.map (fun x => (Value.int .i64 x.1, x.2))) (x : Int) (w : World) :
    (Instr.findKey k (.int .i64 x) es.toList).run P w = .ok (mfind m x 0) w := by
  simp only [Instr.findKey, Sem.run_bind, run_underlying hk, Result.andThen, findNow_is m es.toList x 0 h, Sem.run_pure]

theorem run_checkKey_int (hk : P.underlying k = some (.int .i64)) (em : Bool) (x : Int) (w : World) : (Instr.checkKey em 10000 k (.int .i64 x)).run P w = .ok () w := by
  unfold Instr.checkKey
  simp [Sem.run_bind, run_underlying hk, Result.andThen]

theorem run_lookup_kv (ht : P.underlying t = some (.map k e)) (hk : P.underlying k = some (.int .i64)) {z : Value} (hz : ∀ w, (zeroValue e).run P w = .ok z w) (h : MapIs w b m) (x : Int) :
    (Instr.lookup t (.map (some b)) (.int .i64 x) false).run P w = .ok ((mget m x).getD z) w := by
  obtain ⟨es, clock, hb, hm⟩ := h
  have hf := run_findKey_kv (P := P) hk hm x w
  rw [← mfind_get m x 0]
  unfold Instr.lookup
  simp only [Sem.run_bind, run_underlying ht, Result.andThen, MapKept.run_getObj_map hb, Sem.run_pure, run_checkKey_int hk, hf]
  cases mfind m x 0 with
  | none => simp [Sem.run_bind, hz, Result.andThen]
  | some y => obtain ⟨i, v⟩ := y; simp [Result.andThen]

theorem run_lookup_kv_ok (ht : P.underlying t = some (.map k e)) (hk : P.underlying k = some (.int .i64)) {z : Value} (hz : ∀ w, (zeroValue e).run P w = .ok z w) (h : MapIs w b m) (x : Int) :
    (Instr.lookup t (.map (some b)) (.int .i64 x) true).run P w = .ok (.tuple #[(mget m x).getD z, .bool (mget m x).isSome]) w := by
  obtain ⟨es, clock, hb, hm⟩ := h
  have hf := run_findKey_kv (P := P) hk hm x w
  rw [← mfind_get m x 0]
  unfold Instr.lookup
  simp only [Sem.run_bind, run_underlying ht, Result.andThen, MapKept.run_getObj_map hb, Sem.run_pure, run_checkKey_int hk, hf]
  cases mfind m x 0 with
  | none => simp [Sem.run_bind, hz, Result.andThen]
  | some y => obtain ⟨i, v⟩ := y; simp [Result.andThen]

theorem mfind_put : ∀ (m : KV) (x : Int) (u : Value) (i : Nat), match mfind m x i with
    | none => mput m x u = m ++ [(x, u)]
    | some (j, _) => i ≤ j ∧ j - i < m.length ∧ (∃ v, m[j - i]? = some (x, v)) ∧ mput m x u = m.set (j - i) (x, u)
  | [], _, _, _ => by simp [mfind, mput]
  | (k, v) :: r, x, u, i => by
    unfold mfind
    by_cases hx : k = x
    · simp [hx, mput]
    · have ih := mfind_put r x u (i + 1)
      simp only [hx, if_false]
      cases hm : mfind r x (i + 1) with
      | none => rw [hm] at ih; simp only at ih ⊢; simp [mput, hx, ih]
      | some y =>
        obtain ⟨j, v'⟩ := y
        rw [hm] at ih
        simp only at ih ⊢
        obtain ⟨h1, h2, ⟨v2, h3⟩, h4⟩ := ih
        have e1 : j - i = (j - (i + 1)) + 1 := by omega
        refine ⟨by omega, by simp; omega, ⟨v2, ?_⟩, ?_⟩
        · rw [e1]; simpa using h3
        · rw [e1]; simp [mput, hx, h4]

theorem mfind_del : ∀ (m : KV) (x : Int) (i : Nat), match mfind m x i with
    | none => mdel m x = m
    | some (j, _) => i ≤ j ∧ j - i < m.length ∧ mdel m x = m.eraseIdx (j - i)
  | [], _, _ => by simp [mfind, mdel]
  | (k, v) :: r, x, i => by
    unfold mfind
    by_cases hx : k = x
    · simp [hx, mdel]
    · have ih := mfind_del r x (i + 1)
      simp only [hx, if_false]
      cases hm : mfind r x (i + 1) with
      | none => rw [hm] at ih; simp only at ih ⊢; simp [mdel, hx, ih]
      | some y =>
        obtain ⟨j, v'⟩ := y
        rw [hm] at ih
        simp only at ih ⊢
        obtain ⟨h1, h2, h4⟩ := ih
        have e1 : j - i = (j - (i + 1)) + 1 := by omega
        refine ⟨by omega, by simp; omega, ?_⟩
        rw [e1]; simp [mdel, hx, h4]

/-- Nothing has turned but blocks of F; new blocks may have come. -/
structure Touch (F : Nat → Prop) (w w' : World) : Prop where
  os : w'.os = w.os
  tape : w'.tape = w.tape
  output : w'.output = w.output
  size : w.heap.size ≤ w'.heap.size
  block : ∀ k, k < w.heap.size → ¬ F k → w'.heap[k]? = w.heap[k]?

theorem Touch.refl (F : Nat → Prop) (w : World) : Touch F w w := ⟨rfl, rfl, rfl, Nat.le_refl _, fun _ _ _ => rfl⟩
theorem Touch.trans {F : Nat → Prop} {a b c : World} (h : Touch F a b) (k : Touch F b c) : Touch F a c :=
  ⟨k.os.trans h.os, k.tape.trans h.tape, k.output.trans h.output, Nat.le_trans h.size k.size, fun i hi hF => (k.block i (Nat.lt_of_lt_of_le hi h.size) hF).trans (h.block i hi hF)⟩
theorem Touch.mono {F G : Nat → Prop} {a b : World} (h : Touch F a b) (hFG : ∀ k, k < a.heap.size → F k → G k) : Touch G a b :=
  ⟨h.os, h.tape, h.output, h.size, fun i hi hG => h.block i hi (fun hF => hG (hFG i hi hF))⟩
/-- The second step may touch what is new since the first. -/
theorem Touch.trans' {F G H : Nat → Prop} {a b c : World} (h : Touch F a b) (k : Touch G b c) (hF : ∀ i, i < a.heap.size → F i → H i) (hG : ∀ i, i < a.heap.size → G i → H i) : Touch H a c :=
  ⟨k.os.trans h.os, k.tape.trans h.tape, k.output.trans h.output, Nat.le_trans h.size k.size, fun i hi hH => (k.block i (Nat.lt_of_lt_of_le hi h.size) (fun g => hH (hG i hi g))).trans (h.block i hi (fun f => hH (hF i hi f)))⟩
theorem Touch.setCell {F : Nat → Prop} (w : World) {p : Addr} (hp : F p.block) (u : Value) : Touch F w (w.setCell p u) :=
  ⟨rfl, rfl, rfl, by simp [World.setCell], fun k _ hF => Below.heap_setCell _ _ _ _ (fun e => hF (e ▸ hp))⟩
theorem Touch.cell1 (w : World) (p j : Nat) (v : Value) : Touch (· = p) w (w.setCell ⟨p, j, Option.none⟩ v) :=
  Touch.setCell (F := (· = p)) w (p := ⟨p, j, Option.none⟩) rfl v
theorem Touch.alloc (F : Nat → Prop) (w : World) (o : Obj) : Touch F w (w.alloc o) :=
  ⟨rfl, rfl, rfl, by simp, fun k hk _ => Below.heap_alloc _ _ _ hk⟩
theorem Touch.drew (F : Nat → Prop) (w : World) : Touch F w w.drew := ⟨rfl, rfl, rfl, Nat.le_refl _, fun _ _ _ => rfl⟩
theorem Touch.drewN (F : Nat → Prop) (w : World) (n : Nat) : Touch F w (w.drewN n) := ⟨rfl, rfl, rfl, Nat.le_refl _, fun _ _ _ => rfl⟩
theorem Touch.grown {F : Nat → Prop} {w w' : World} {row : Option Nat} (h : w.grownBy w' row) (hr : ∀ k, row = some k → k < w.heap.size → F k) : Touch F w w' :=
  ⟨h.os, h.tape, h.output, h.size, fun k hk hF => h.block k hk (fun e => hF (hr k e.symm hk))⟩
theorem Touch.below {F : Nat → Prop} {w w' : World} (h : Touch F w w') {B : Nat} (hB : B ≤ w.heap.size) (hF : ∀ k, k < B → ¬ F k) : Below B w w' :=
  ⟨h.os, h.tape, h.output, h.size, fun k hk => h.block k (by omega) (hF k hk)⟩
theorem Touch.of_below {B : Nat} {w w' : World} (h : Below B w w') : Touch (fun k => B ≤ k) w w' :=
  ⟨h.os, h.tape, h.output, h.size, fun k _ hF => h.block k (by omega)⟩

theorem Touch.map {F : Nat → Prop} {w w' : World} (h : Touch F w w') {b : Nat} (hb : ¬ F b) {m : KV} (hm : MapIs w b m) : MapIs w' b m := by
  obtain ⟨es, clock, hh, hx⟩ := hm
  exact ⟨es, clock, (h.block b (Array.getElem?_eq_some_iff.1 hh).1 hb).trans hh, hx⟩
theorem Touch.heap {F : Nat → Prop} {w w' : World} (h : Touch F w w') {b : Nat} (hb : ¬ F b) {o : Obj} (hm : w.heap[b]? = some o) : w'.heap[b]? = some o :=
  (h.block b (Array.getElem?_eq_some_iff.1 hm).1 hb).trans hm

theorem MapIs.lt (h : MapIs w b m) : b < w.heap.size := by
  obtain ⟨es, clock, hb, _⟩ := h
  exact (Array.getElem?_eq_some_iff.1 hb).1

theorem MapIs.size (h : MapIs w b m) : ∃ es clock, w.heap[b]? = some (.map es clock) ∧ es.size = m.length := by
  obtain ⟨es, clock, hb, he⟩ := h
  refine ⟨es, clock, hb, ?_⟩
  have := congrArg List.length he
  simpa using this

theorem run_update_kv (ht : P.underlying t = some (.map k e)) (hk : P.underlying k = some (.int .i64)) (h : MapIs w b m) (x : Int) (v : Value) :
    ∃ w', (Instr.mapUpdate t (.map (some b)) (.int .i64 x) v).run P w = .ok () w' ∧ MapIs w' b (mput m x v) ∧ Touch (· = b) w w' ∧ w'.heap.size = w.heap.size := by
  obtain ⟨es, clock, hb, hm⟩ := h
  have hf := run_findKey_kv (P := P) hk hm x w
  have hp := mfind_put m x v 0
  have hlt := (Array.getElem?_eq_some_iff.1 hb).1
  have key : ∀ o : Obj, Touch (· = b) w (ChangeMaps.setBlock w b o) ∧ (ChangeMaps.setBlock w b o).heap.size = w.heap.size :=
    fun o => ⟨⟨rfl, rfl, rfl, by simp [ChangeMaps.setBlock], fun i _ hi => ChangeMaps.heap_setBlock_other hb o hi⟩, by simp [ChangeMaps.setBlock]⟩
  cases hfm : mfind m x 0 with
  | none =>
    rw [hfm] at hf hp
    simp only at hp
    refine ⟨ChangeMaps.setBlock w b (.map (es.push { key := .int .i64 x, val := v, born := clock }) (clock + 1)), ?_, ⟨_, _, ChangeMaps.heap_setBlock_same hb _, ?_⟩, (key _).1, (key _).2⟩
    · unfold Instr.mapUpdate
      simp only [Sem.run_bind, run_underlying ht, Result.andThen, MapKept.run_getObj_map hb, Sem.run_pure, run_checkKey_int hk, hf, MapKept.run_setObj_map _ hb]
      rfl
    · rw [hp]; simp [hm]
  | some y =>
    obtain ⟨j, v0⟩ := y
    rw [hfm] at hf hp
    simp only [Nat.sub_zero, Nat.zero_le, true_and] at hp
    obtain ⟨hj, ⟨v1, hv1⟩, hput⟩ := hp
    have hsz : es.size = m.length := by simpa using congrArg List.length hm
    have hek : (es[j]?).map (·.key) = some (.int .i64 x) := by
      have h1 := congrArg (fun l => l[j]?) hm
      simp only [List.getElem?_map, hv1, Option.map_some, Array.getElem?_toList] at h1
      cases h2 : es[j]? with
      | none => rw [h2] at h1; simp at h1
      | some y => rw [h2] at h1; simp at h1; simp [h1.1]
    have hst : (Instr.keyThatStays (.int .i64 x) (.int .i64 x)).run P w = .ok (.int .i64 x) w := by
      unfold Instr.keyThatStays
      simp [Instr.sameBits]
    refine ⟨ChangeMaps.setBlock w b (.map (es.modify j fun e => { e with key := .int .i64 x, val := v }) clock), ?_, ⟨_, _, ChangeMaps.heap_setBlock_same hb _, ?_⟩, (key _).1, (key _).2⟩
    · unfold Instr.mapUpdate
      simp only [Sem.run_bind, run_underlying ht, Result.andThen, MapKept.run_getObj_map hb, Sem.run_pure, run_checkKey_int hk, hf, hek, Option.getD_some, hst, MapKept.run_setObj_map _ hb]
      rfl
    · rw [hput]
      apply List.ext_getElem?
      intro i
      have h1 := congrArg (fun l => l[i]?) hm
      simp only [List.getElem?_map, Array.getElem?_toList] at h1
      simp only [List.getElem?_map, Array.getElem?_toList, Array.getElem?_modify, List.getElem?_set]
      by_cases hij : j = i
      · subst hij
        simp only [if_true, hj]
        have : j < es.size := by omega
        simp [this]
      · simp only [hij, if_false]
        exact h1

theorem run_delete_kv (ht : P.underlying t = some (.map k e)) (hk : P.underlying k = some (.int .i64)) (ty : TypeId) (at1 : TypeId) (h : MapIs w b m) (x : Int) :
    ∃ w', (Builtin.delete_ #[t, at1] ty #[.map (some b), .int .i64 x]).run P w = .ok (.tuple #[]) w' ∧ MapIs w' b (mdel m x) ∧ Touch (· = b) w w' ∧ w'.heap.size = w.heap.size := by
  obtain ⟨es, clock, hb, hm⟩ := h
  have hf := run_findKey_kv (P := P) hk hm x w
  have hp := mfind_del m x 0
  have key : ∀ o : Obj, Touch (· = b) w (ChangeMaps.setBlock w b o) ∧ (ChangeMaps.setBlock w b o).heap.size = w.heap.size :=
    fun o => ⟨⟨rfl, rfl, rfl, by simp [ChangeMaps.setBlock], fun i _ hi => ChangeMaps.heap_setBlock_other hb o hi⟩, by simp [ChangeMaps.setBlock]⟩
  cases hfm : mfind m x 0 with
  | none =>
    rw [hfm] at hf hp
    simp only at hp
    refine ⟨ChangeMaps.setBlock w b (.map es clock), ?_, ⟨_, _, ChangeMaps.heap_setBlock_same hb _, by rw [hp]; exact hm⟩, (key _).1, (key _).2⟩
    unfold Builtin.delete_
    simp [Sem.run_bind, run_underlying ht, Result.andThen, MapKept.run_getObj_map hb, Sem.run_pure, run_checkKey_int hk, hf, MapKept.run_setObj_map _ hb, ChangeMaps.setBlock]
  | some y =>
    obtain ⟨j, v0⟩ := y
    rw [hfm] at hf hp
    simp only [Nat.sub_zero, Nat.zero_le, true_and] at hp
    obtain ⟨hj, hd⟩ := hp
    refine ⟨ChangeMaps.setBlock w b (.map (es.eraseIdxIfInBounds j) clock), ?_, ⟨_, _, ChangeMaps.heap_setBlock_same hb _, ?_⟩, (key _).1, (key _).2⟩
    · unfold Builtin.delete_
      simp [Sem.run_bind, run_underlying ht, Result.andThen, MapKept.run_getObj_map hb, Sem.run_pure, run_checkKey_int hk, hf, MapKept.run_setObj_map _ hb, ChangeMaps.setBlock]
    · have hsz : es.size = m.length := by simpa using congrArg List.length hm
      rw [hd]
      have : (es.eraseIdxIfInBounds j).toList = es.toList.eraseIdx j := by
        unfold Array.eraseIdxIfInBounds
        have : j < es.size := by omega
        simp [this]
      rw [this, ChangeMaps.map_eraseIdx, ChangeMaps.map_eraseIdx, hm]

theorem run_len_kv (ht : P.underlying t = some (.map k e)) (ty : TypeId) (h : MapIs w b m) :
    (Builtin.len_ #[t] ty #[.map (some b)]).run P w = .ok (.int .i64 m.length) w := by
  obtain ⟨es, clock, hb, hs⟩ := h.size
  unfold Builtin.len_
  simp [Sem.run_bind, run_underlying ht, Result.andThen, MapKept.run_getObj_map hb, hs, goInt]

theorem mget_put : ∀ (m : KV) (x y : Int) (u : Value), mget (mput m x u) y = if y = x then some u else mget m y
  | [], x, y, u => by
    simp only [mput, mget]
    by_cases h : x = y
    · simp [h]
    · have h' : ¬ y = x := fun e => h e.symm
      simp [h, h']
  | (k, v) :: r, x, y, u => by
    unfold mput
    by_cases hx : k = x
    · subst hx
      simp only [if_true, mget]
      by_cases h : k = y
      · simp [h]
      · have h' : ¬ y = k := fun e => h e.symm
        simp [h, h']
    · simp only [hx, if_false, mget, mget_put r x y u]
      by_cases h : k = y
      · subst h; simp [hx]
      · simp [h]

theorem mput_keys_mem : ∀ (m : KV) (x y : Int) (u : Value), y ∈ (mput m x u).map (·.1) ↔ y = x ∨ y ∈ m.map (·.1)
  | [], x, y, u => by simp [mput]
  | (k, v) :: r, x, y, u => by
    unfold mput
    by_cases hx : k = x
    · subst hx; simp
    · simp only [hx, if_false, List.map_cons, List.mem_cons, mput_keys_mem r x y u]
      constructor
      · rintro (h | h | h) <;> simp [h]
      · rintro (h | h | h) <;> simp [h]

theorem mput_nodup : ∀ (m : KV) (x : Int) (u : Value), (m.map (·.1)).Nodup → ((mput m x u).map (·.1)).Nodup
  | [], x, u, _ => by simp [mput]
  | (k, v) :: r, x, u, h => by
    simp only [List.map_cons, List.nodup_cons] at h
    unfold mput
    by_cases hx : k = x
    · subst hx; simp only [if_true, List.map_cons, List.nodup_cons]; exact h
    · simp only [hx, if_false, List.map_cons, List.nodup_cons]
      refine ⟨fun hm => ?_, mput_nodup r x u h.2⟩
      rcases (mput_keys_mem r x k u).1 hm with h' | h'
      · exact hx h'
      · exact h.1 h'

theorem mdel_sub : ∀ (m : KV) (x y : Int), y ∈ (mdel m x).map (·.1) → y ∈ m.map (·.1)
  | [], _, _, h => h
  | (k, v) :: r, x, y, h => by
    unfold mdel at h
    by_cases hx : k = x
    · simp only [hx, if_true] at h; simp only [List.map_cons, List.mem_cons]; exact .inr h
    · simp only [hx, if_false, List.map_cons, List.mem_cons] at h ⊢
      rcases h with h | h
      · exact .inl h
      · exact .inr (mdel_sub r x y h)

theorem mdel_nodup : ∀ (m : KV) (x : Int), (m.map (·.1)).Nodup → ((mdel m x).map (·.1)).Nodup
  | [], _, h => h
  | (k, v) :: r, x, h => by
    simp only [List.map_cons, List.nodup_cons] at h
    unfold mdel
    by_cases hx : k = x
    · simp only [hx, if_true]; exact h.2
    · simp only [hx, if_false, List.map_cons, List.nodup_cons]
      exact ⟨fun hm => h.1 (mdel_sub r x k hm), mdel_nodup r x h.2⟩

theorem mget_none : ∀ (m : KV) (x : Int), mget m x = Option.none ↔ x ∉ m.map (·.1)
  | [], _ => by simp [mget]
  | (k, v) :: r, x => by
    unfold mget
    by_cases hx : k = x
    · simp [hx]
    · simp only [hx, if_false, mget_none r x, List.map_cons, List.mem_cons]
      exact ⟨fun h h' => h'.elim (fun e => hx e.symm) h, fun h h' => h (.inr h')⟩

theorem mget_del : ∀ (m : KV) (x y : Int), (m.map (·.1)).Nodup → mget (mdel m x) y = if y = x then Option.none else mget m y
  | [], x, y, _ => by simp [mdel, mget]
  | (k, v) :: r, x, y, h => by
    simp only [List.map_cons, List.nodup_cons] at h
    unfold mdel
    by_cases hx : k = x
    · subst hx
      simp only [if_true, mget]
      by_cases hy : y = k
      · subst hy; simp only [if_true]; exact (mget_none r y).2 h.1
      · have hy' : ¬ k = y := fun e => hy e.symm
        simp [hy, hy']
    · simp only [hx, if_false, mget, mget_del r x y h.2]
      by_cases hy : k = y
      · subst hy; simp [hx]
      · simp [hy]

theorem mput_length (m : KV) (x : Int) (u : Value) : (mput m x u).length = if (mget m x).isSome then m.length else m.length + 1 := by
  have h := mfind_put m x u 0
  have hg := mfind_get m x 0
  cases hm : mfind m x 0 with
  | none => rw [hm] at h hg; simp only [Option.map_none] at h hg; rw [h, ← hg]; simp
  | some y => obtain ⟨j, v⟩ := y; rw [hm] at h hg; simp only [Option.map_some] at h hg; rw [h.2.2.2, ← hg]; simp

theorem mdel_length (m : KV) (x : Int) : (mdel m x).length = if (mget m x).isSome then m.length - 1 else m.length := by
  have h := mfind_del m x 0
  have hg := mfind_get m x 0
  cases hm : mfind m x 0 with
  | none => rw [hm] at h hg; simp only [Option.map_none] at h hg; rw [h, ← hg]; simp
  | some y =>
    obtain ⟨j, v⟩ := y; rw [hm] at h hg; simp only [Option.map_some, Nat.sub_zero] at h hg
    rw [h.2.2, ← hg, List.length_eraseIdx]; simp [h.2.1]

/-- append, its run known: for an arm of the walk. -/
theorem wpList_append_run {P : Program} {w : World} {ops : Array Oper} {rest : List Oper} {o : Oper} {a : Act} {Q : Exit → Act → World → Prop} (hgd : o.guard = Option.none) (s x : Operand) (t u : TypeId)
    (ho : o.op = .call { callee := .builtin .append, args := #[s, x], argTypes := #[t, u] }) {v1 v2 v' : Value} {w' : World} (hs : a.eval s = v1) (hx : a.eval x = v2)
    (hr : (Builtin.append_ #[t, u] o.type #[v1, v2]).run P w = .ok v' w') (h : wpList P ops Q rest (a.put o.dst v') w') : wpList P ops Q (o :: rest) a w := by
  refine wpList_plain hgd fun K hK => ?_
  unfold Oper.wp execOp
  simp only [ho, resolve, invoke, builtin, Sem.run_bind, Sem.run_pure, Result.andThen_ok, List.map_toArray, List.map_cons, List.map_nil, hs, hx, hr]
  exact hK _ _ h

/-- copy, its run known: for an arm of the walk. -/
theorem wpList_copy_run {P : Program} {w : World} {ops : Array Oper} {rest : List Oper} {o : Oper} {a : Act} {Q : Exit → Act → World → Prop} (hgd : o.guard = Option.none) (s x : Operand) (t u : TypeId)
    (ho : o.op = .call { callee := .builtin .copy, args := #[s, x], argTypes := #[t, u] }) {v1 v2 v' : Value} {w' : World} (hs : a.eval s = v1) (hx : a.eval x = v2)
    (hr : (Builtin.copy_ #[t, u] o.type #[v1, v2]).run P w = .ok v' w') (h : wpList P ops Q rest (a.put o.dst v') w') : wpList P ops Q (o :: rest) a w := by
  refine wpList_plain hgd fun K hK => ?_
  unfold Oper.wp execOp
  simp only [ho, resolve, invoke, builtin, Sem.run_bind, Sem.run_pure, Result.andThen_ok, List.map_toArray, List.map_cons, List.map_nil, hs, hx, hr]
  exact hK _ _ h

theorem MapIs_made (w : World) : MapIs (w.alloc (.map #[] 0)) w.heap.size [] := ⟨#[], 0, (MapKept.heap_alloc w _).1, by simp⟩

end Go.Proofs.Ytaeicondmiikaaa
