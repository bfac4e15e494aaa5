/- What a new store is, and what taking a block of it does. -/
import Derived.Test.YtaeicondmiikaaaBs
import Derived.StillTailTactics
namespace Go.Proofs.Ytaeicondmiikaaa
open Go.RowKit Go.Maps
set_option linter.unusedSimpArgs false
set_option linter.unusedVariables false

variable {w : World} {p bm : Nat} {S : St}

def NewPost (size cap : Nat) (w : World) (e : Ending) (w' : World) : Prop :=
  ∃ p bm, e = .returned (.tuple #[.pointer (some ⟨p, 0, Option.none⟩), .int .i64 0]) ∧ StoreAt w' p bm ⟨size, cap, 0, 0, -1, false, []⟩ ∧ w.heap.size ≤ p ∧ w.heap.size ≤ bm ∧ Touch (fun _ => False) w w'

theorem new_at (size cap : Nat) (w : World) (h0 : 16 ≤ size) (h1 : size ≤ 1024) (h2 : cap ≤ 4096) :
    NewPost size cap w (.returned (.tuple #[.pointer (some ⟨w.heap.size + 1, 0, Option.none⟩), .int .i64 0]))
      ((w.alloc (Obj.map #[] 0)).alloc (Obj.cells #[Value.int IntKind.i64 ↑size, Value.int IntKind.i64 ↑cap, Value.int IntKind.i64 0, Value.map (some w.heap.size), Value.int IntKind.i64 0, Value.int IntKind.i64 (-1), Value.bool false] 54)) := by
  have e1 : (w.alloc (Obj.map #[] 0)).heap.size = w.heap.size + 1 := by simp
  refine ⟨w.heap.size + 1, w.heap.size, rfl, ⟨?_, ?_, ?_, ?_, ?_, ?_, ⟨h0, h1⟩, ?_⟩, by omega, by omega, (Touch.alloc _ w _).trans (Touch.alloc _ _ _)⟩
  · rw [← e1, (MapKept.heap_alloc _ _).1]; rfl
  · exact (Touch.alloc (fun _ => False) _ _).map (fun h => h) (MapIs_made w)
  · intro x hx; cases hx
  · intro x hx; cases hx
  · simp
  · simp
  · simp; exact h2

set_option maxHeartbeats 400000 in
theorem new_ok (size cap : Nat) (w : World) (h0 : 16 ≤ size) (h1 : size ≤ 1024) (h2 : cap ≤ 4096) :
    Calls Try.prog 9 #[.int .i64 size, .int .i64 cap] w (NewPost size cap w) := by
  have hmm := @run_makeMap Try.prog
  have FIN := Lib.hid (new_at size cap w h0 h1 h2)
  go_enter Try.func9, Try.ntmps9
  go_wp2
  go_ret2
  exact FIN.out

set_option maxHeartbeats 400000 in
theorem new_err (size cap : Int) (w : World) (h : size < 16 ∨ 1024 < size ∨ cap < 0 ∨ 4096 < cap) :
    Calls Try.prog 9 #[.int .i64 size, .int .i64 cap] w fun e w' => e = .returned (.tuple #[.pointer Option.none, .int .i64 1]) ∧ w = w' := by
  by_cases a1 : size < 16
  · go_enter Try.func9, Try.ntmps9
    go_wp2
    go_ret2
    exact ⟨rfl, rfl⟩
  · by_cases a2 : 1024 < size
    · go_enter Try.func9, Try.ntmps9
      go_wp2
      go_ret2
      exact ⟨rfl, rfl⟩
    · by_cases a3 : cap < 0
      · go_enter Try.func9, Try.ntmps9
        go_wp2
        go_ret2
        exact ⟨rfl, rfl⟩
      · have a4 : 4096 < cap := by omega
        go_enter Try.func9, Try.ntmps9
        go_wp2
        go_ret2
        exact ⟨rfl, rfl⟩

theorem zero22 (w : World) : (zeroValue 22).run Try.prog w = .ok (.slice Option.none 0 0) w := by kernel_rfl
theorem info5 : (Try.prog.info? 5).map (fun i => (i.zero, i.size, i.bytes)) = some (some (.int .u8 0), 1, 1) := by kernel_rfl

theorem St.kv_get (S : St) (x : Int) : mget S.kv x = (S.m.find? (fun y => y.1 == x)).map fun y => Value.slice (some ⟨y.2.1, 0, Option.none⟩) S.size S.size := by
  unfold St.kv
  induction S.m with
  | nil => rfl
  | cons y r ih =>
    simp only [List.map_cons, mget, List.find?_cons]
    by_cases h : y.1 = x
    · simp [h]
    · have h' : (y.1 == x) = false := by simpa using h
      simp [h, h', ih]

theorem St.kv_none (S : St) (x : Int) : mget S.kv x = Option.none ↔ x ∉ S.m.map (·.1) := by
  rw [mget_none]; simp [St.kv]

/-- The zeros of a block. -/
def zeros (n : Nat) : List Int := List.replicate n 0
theorem bytesOf_zeros (n : Nat) : madeCells #[.int .u8 0] n = bytesOf (zeros n) := by
  apply Array.ext
  · simp [madeCells, bytesOf, zeros]
  · intro i h1 h2
    simp [madeCells, bytesOf, zeros, Nat.mod_one]

theorem run_make22 (n : Nat) (h : n ≤ 1024) (w : World) : (Instr.makeSlice 22 (.int .i64 n) (.int .i64 n)).run Try.prog w = .ok (.slice (some ⟨w.heap.size, 0, Option.none⟩) n n) (w.alloc (.cells (bytesOf (zeros n)) 5)) := by
  obtain ⟨i, hi, hz, hs, hb⟩ := info_parts info5
  have := run_make (P := Try.prog) w 22 5 i (.int .u8 0) Try.underlying22 hi hz .i64 .i64 n n (by omega) (by omega) (by rw [hb]; omega) (by omega)
  rw [this, hs]
  simp [Value.cells, bytesOf_zeros]

/-- The number of a free block: none below it is free. -/
def Free (S : St) (id : Nat) : Prop := (id : Int) ∉ S.m.map (·.1) ∧ ∀ j : Nat, j < id → (j : Int) ∈ S.m.map (·.1)

/-- Behind a block that was taken. -/
def St.took (S : St) (id blk : Nat) : St := { S with m := S.m ++ [((id : Int), blk, zeros S.size)], peak := max S.peak (S.m.length + 1) }

def AllocPost (p bm : Nat) (S : St) (w : World) (e : Ending) (w' : World) : Prop :=
  ∃ id blk, Free S id ∧ e = .returned (.tuple #[.int .i64 (id : Nat), .int .i64 0]) ∧ StoreAt w' p bm (S.did.took id blk) ∧ w.heap.size ≤ blk ∧ Touch (fun k => k = p ∨ k = bm) w w'

set_option maxHeartbeats 400000 in
theorem alloc_fault (h : StoreAt w p bm S) (ho : S.ops < 4611686018427387904) (hf : S.fails = true) :
    Calls Try.prog 10 #[.pointer (some ⟨p, 0, Option.none⟩)] w fun e w' => e = .returned (.tuple #[.int .i64 0, .int .i64 9]) ∧ StoreAt w' p bm S.did ∧ Touch (· = p) w w' := by
  have OP := Lib.hid (op_any h ho)
  have HF := Lib.hid hf
  clear hf
  go_enter Try.func10, Try.ntmps10
  go_wp2_with (go_at_call 21; refine OP.out.mono ?_; rintro e w1 ⟨he, s1, t1, z1⟩; rw [HF.out] at he; subst he)
  go_ret2
  exact ⟨rfl, s1, t1⟩

set_option maxHeartbeats 400000 in
theorem alloc_full (h : StoreAt w p bm S) (ho : S.ops < 4611686018427387904) (hf : S.fails = false) (hc : S.m.length = S.cap) :
    Calls Try.prog 10 #[.pointer (some ⟨p, 0, Option.none⟩)] w fun e w' => e = .returned (.tuple #[.int .i64 0, .int .i64 8]) ∧ StoreAt w' p bm S.did ∧ Touch (· = p) w w' := by
  have OP := Lib.hid (op_any h ho)
  have HF := Lib.hid hf
  have HC := Lib.hid hc
  clear hf hc
  go_enter Try.func10, Try.ntmps10
  go_wp2_with (go_at_call 21; refine OP.out.mono ?_; rintro e w1 ⟨he, s1, t1, z1⟩; rw [HF.out] at he; subst he)
  have c1 := s1.c1
  have c3 := s1.c3
  have hl : ∀ n ty, (Builtin.len_ #[47] ty #[.map (some bm)]).run Try.prog (w1.drewN n) = .ok (.int .i64 S.did.cap) (w1.drewN n) := fun n ty => by
    have e1 : (S.did.kv.length : Int) = S.did.cap := by simp [St.kv, St.did, HC.out]
    rw [← e1]; exact run_len_kv (P := Try.prog) (t := 47) (w := w1.drewN n) Try.underlying47 ty s1.hm
  go_quiet (fail)
  go_wp2
  go_ret2
  exact ⟨rfl, s1.drewN nq, t1.trans (Touch.drewN _ _ _)⟩

theorem nodup_sub_length : ∀ (a b : List Int), a.Nodup → (∀ x ∈ a, x ∈ b) → a.length ≤ b.length
  | [], _, _, _ => Nat.zero_le _
  | x :: a, b, h, hs => by
    simp only [List.nodup_cons] at h
    have hx : x ∈ b := hs x (by simp)
    have ih := nodup_sub_length a (b.erase x) h.2 (fun y hy => by
      have hyb := hs y (by simp [hy])
      exact (List.mem_erase_of_ne (fun e => h.1 (by rw [← e]; exact hy))).2 hyb)
    rw [List.length_erase_of_mem hx] at ih
    have : 0 < b.length := List.length_pos_of_mem hx
    simp only [List.length_cons]; omega

theorem below_len {l : List Int} {k : Nat} (h : ∀ j : Nat, j < k → (j : Int) ∈ l) : k ≤ l.length := by
  have := nodup_sub_length ((List.range k).map Int.ofNat) l (by
    rw [List.nodup_iff_pairwise_ne, List.pairwise_map]
    exact (List.nodup_range (n := k)).imp (fun h e => h (Int.ofNat.inj e))) (by
    intro x hx
    obtain ⟨j, hj, rfl⟩ := List.mem_map.1 hx
    exact h j (List.mem_range.1 hj))
  simpa using this

theorem mput_new : ∀ (m : KV) (x : Int) (u : Value), mget m x = Option.none → mput m x u = m ++ [(x, u)]
  | [], _, _, _ => rfl
  | (k, v) :: r, x, u, h => by
    unfold mget at h
    unfold mput
    by_cases hk : k = x
    · simp [hk] at h
    · simp only [hk, if_false] at h ⊢
      rw [mput_new r x u h]; rfl

theorem took1 {w w3 : World} {p bm k blk : Nat} {S : St} (sa : StoreAt w p bm S) (hb : w.heap[blk]? = some (.cells (bytesOf (zeros S.size)) 5 (0, 0))) (hnew : ∀ x ∈ S.m, x.2.1 ≠ blk)
    (hin : (k : Int) ∉ S.m.map (·.1)) (hc : S.m.length < S.cap) (m3 : MapIs w3 bm (mput S.kv k (.slice (some ⟨blk, 0, Option.none⟩) S.size S.size))) (t3 : Touch (· = bm) w w3) :
    StoreAt w3 p bm { S with m := S.m ++ [((k : Int), blk, zeros S.size)] } := by
  rw [mput_new _ _ _ ((St.kv_none S k).2 hin)] at m3
  have hne : ¬ blk = bm := by
    rintro rfl
    obtain ⟨es, c, hb', _⟩ := sa.hm
    rw [hb] at hb'; cases hb'
  refine ⟨?_, ?_, ?_, ?_, ?_, ?_, sa.hs, ?_⟩
  · exact t3.heap (fun e => sa.nepm e) sa.hp
  · have : ({ S with m := S.m ++ [((k : Int), blk, zeros S.size)] } : St).kv = S.kv ++ [((k : Int), .slice (some ⟨blk, 0, Option.none⟩) S.size S.size)] := by simp [St.kv]
    rw [this]; exact m3
  · intro x hx
    rcases List.mem_append.1 hx with hx | hx
    · exact t3.heap (sa.nebm x hx) (sa.hb x hx)
    · simp only [List.mem_singleton] at hx; subst hx; exact t3.heap hne hb
  · intro x hx
    rcases List.mem_append.1 hx with hx | hx
    · exact sa.hl x hx
    · simp only [List.mem_singleton] at hx; subst hx; simp [zeros]
  · simp only [List.map_append, List.map_cons, List.map_nil, List.nodup_append]
    refine ⟨sa.hk, by simp, fun a ha b hb' e => ?_⟩
    simp only [List.mem_singleton] at hb'
    subst hb'; subst e; exact hin ha
  · simp only [List.map_append, List.map_cons, List.map_nil, List.nodup_append]
    refine ⟨sa.hn, by simp, fun a ha b hb' e => ?_⟩
    simp only [List.mem_singleton] at hb'
    obtain ⟨x, hx, hxe⟩ := List.mem_map.1 ha
    exact hnew x hx (by rw [hxe, e, hb'])
  · simp only [List.length_append, List.length_cons, List.length_nil]
    exact ⟨by omega, sa.hc.2⟩

set_option maxHeartbeats 400000 in
theorem alloc_ok (h : StoreAt w p bm S) (ho : S.ops < 4611686018427387904) (hf : S.fails = false) (hc : S.m.length < S.cap) :
    Calls Try.prog 10 #[.pointer (some ⟨p, 0, Option.none⟩)] w (AllocPost p bm S w) := by
  have OP := Lib.hid (op_any h ho)
  have HF := Lib.hid hf
  have hz := zero22
  clear hf
  go_enter Try.func10, Try.ntmps10
  go_wp2_with (go_at_call 21; refine OP.out.mono ?_; rintro e w1 ⟨he, s1, t1, z1⟩; rw [HF.out] at he; subst he)
  have c1 := s1.c1
  have c3 := s1.c3
  have hl : ∀ n ty, (Builtin.len_ #[47] ty #[.map (some bm)]).run Try.prog (w1.drewN n) = .ok (.int .i64 S.did.kv.length) (w1.drewN n) := fun n ty =>
    run_len_kv (P := Try.prog) (t := 47) (w := w1.drewN n) Try.underlying47 ty s1.hm
  have hne : ((S.did.kv.length : Int) == (S.did.cap : Int)) = false := by
    simp [St.kv, St.did]; omega
  go_quiet (fail)
  clear hl c1 c3
  have s2 := s1.drewN nq
  have t2 : Touch (· = p) w (w1.drewN nq) := t1.trans (Touch.drewN _ _ _)
  have z2 : (w1.drewN nq).heap.size = w.heap.size := z1
  generalize w1.drewN nq = w2 at *
  have c0 := s2.c0
  have c3 := s2.c3
  go_wp2
  go_loop [4] (fun i => ∃ k : Nat, i = .int .i64 k ∧ Hid (∀ j : Nat, j < k → (j : Int) ∈ S.m.map (·.1))) (fun i => S.m.length - (intOf i).toNat)
  case atStart => exact ⟨0, rfl, fun j hj => by omega⟩
  case round =>
    obtain ⟨k, rfl, hk⟩ := hrel
    have hkl : k ≤ S.m.length := by simpa using below_len hk.out
    have hkc : k ≤ 4096 := by have := h.hc; omega
    have hlk := run_lookup_kv (P := Try.prog) (t := 47) Try.underlying47 Try.underlying3 zero22 s2.hm k
    by_cases hin : (k : Int) ∈ S.m.map (·.1)
    · have hk1 : ∀ j : Nat, j < k + 1 → (j : Int) ∈ S.m.map (·.1) := fun j hj => by
        rcases Nat.lt_or_ge j k with h' | h'
        · exact hk.out j h'
        · obtain rfl : j = k := by omega
          exact hin
      have hkl1 : k + 1 ≤ S.m.length := by simpa using below_len hk1
      have HK := Lib.hid hk1
      clear hk1
      obtain ⟨b, hb⟩ : ∃ b, mget S.did.kv k = some (.slice (some ⟨b, 0, Option.none⟩) S.size S.size) := by
        rw [St.kv_get]
        cases hfd : S.did.m.find? (fun y => y.1 == (k : Int)) with
        | none =>
          rw [List.find?_eq_none] at hfd
          obtain ⟨y, hy, hyk⟩ := List.mem_map.1 hin
          exact absurd (by simpa using hyk) (hfd y hy)
        | some y => exact ⟨y.2.1, rfl⟩
      rw [hb] at hlk
      simp only [Option.getD_some] at hlk
      clear hin hb
      go_wp2
      go_round
      case rel => exact ⟨k + 1, by go_num, HK.out⟩
      case measure => simp [intOf]; omega
    · rw [(St.kv_none S.did k).2 hin] at hlk
      simp only [Option.getD_none] at hlk
      have HIN := Lib.hid hin
      clear hin
      go_wp2
      have hmk := run_make22 S.did.size (by have := s2.hs; omega)
      obtain ⟨w3, hu, m3, t3, z3⟩ := run_update_kv (P := Try.prog) (w := (w2.alloc (.cells (bytesOf (zeros S.did.size)) 5)).drew) Try.underlying47 Try.underlying3 (m := S.did.kv) (b := bm) (by exact (Touch.alloc (fun _ => False) _ _).map (fun h => h) s2.hm) k (.slice (some ⟨w2.heap.size, 0, Option.none⟩) S.did.size S.did.size)
      have Z2 := Lib.hid z2
      have sa : StoreAt (w2.alloc (.cells (bytesOf (zeros S.did.size)) 5)) p bm S.did := s2.kept (Touch.alloc (fun _ => False) _ _) (fun k _ h => h)
      have ca0 := sa.c0
      have ca3 := sa.c3
      clear hlk hz z2
      go_region
      have hb3 : (w2.alloc (.cells (bytesOf (zeros S.did.size)) 5)).drew.heap[w2.heap.size]? = some (.cells (bytesOf (zeros S.did.size)) 5 (0, 0)) := (MapKept.heap_alloc w2 _).1
      have sb := took1 (k := k) (sa.drew) hb3 (fun x hx => Nat.ne_of_lt (s2.ltb x hx)) HIN.out (by simpa [St.did] using hc) m3 t3
      have tb : Touch (fun k => k = p ∨ k = bm) w w3 := t2.trans' ((Touch.alloc (fun _ => False) w2 _).trans' ((Touch.drew (fun _ => False) _).trans' t3 (H := (· = bm)) (by simp) (by simp)) (H := (· = bm)) (by simp) (by simp)) (by intro i _ h; exact .inl h) (by intro i _ h; exact .inr h)
      clear hu m3 t3 z3 sa ca0 ca3 hmk hb3
      have c2 := sb.c2
      have f2 := sb.fz 2
      have c3 := sb.c3
      have hl : ∀ ty, (Builtin.len_ #[47] ty #[.map (some bm)]).run Try.prog w3.drew = .ok (.int .i64 (S.m.length + 1)) w3.drew := fun ty => by
        have := run_len_kv (P := Try.prog) (t := 47) (w := w3.drew) Try.underlying47 ty sb.hm
        rw [this]; simp [St.kv, St.did]
      have fin : ∀ v : Int, v = ((max S.did.peak (S.m.length + 1) : Nat) : Int) → AllocPost p bm S w (.returned (.tuple #[.int .i64 (k : Nat), .int .i64 0])) ((w3.setCell ⟨p, 2, Option.none⟩ (.int .i64 v)).drew) := by
        intro v hv
        have sc : StoreAt ((w3.setCell ⟨p, 2, Option.none⟩ (.int .i64 v)).drew) p bm (S.did.took k w2.heap.size) :=
          (sb.stored 2 _ (by rw [hv]; simp [St.cells, St.took, St.did]) (by simp [St.took, St.did]) (by simp [St.took, St.did]) (by
            have := h.hc
            simp only [St.took, St.did, List.length_append, List.length_cons, List.length_nil]
            omega)).drew
        exact ⟨k, w2.heap.size, ⟨HIN.out, hk.out⟩, rfl, sc, by rw [Z2.out]; exact Nat.le_refl _, (tb.trans ((Touch.setCell (F := fun k => k = p ∨ k = bm) w3 (p := ⟨p, 2, Option.none⟩) (.inl rfl) _).trans (Touch.drew _ _)))⟩
      have FIN := Lib.hid fin
      clear fin tb
      go_wp2
      go_region
      go_wp2
      all_goals
        go_ret2
        exact FIN.out _ (by omega)
end Go.Proofs.Ytaeicondmiikaaa
