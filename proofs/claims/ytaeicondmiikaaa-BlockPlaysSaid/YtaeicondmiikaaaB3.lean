/- What giving, reading and writing a block of a store do, and what its counters answer. -/
import Derived.Test.YtaeicondmiikaaaB2
namespace Go.Proofs.Ytaeicondmiikaaa
open Go.RowKit Go.Maps
set_option linter.unusedSimpArgs false
set_option linter.unusedVariables false

variable {w : World} {p bm : Nat} {S : St}

theorem St.kv_some (S : St) (x : Int) {y : Int × Nat × List Int} (hy : y ∈ S.m) (hx : y.1 = x) (hk : (S.m.map (·.1)).Nodup) : mget S.kv x = some (.slice (some ⟨y.2.1, 0, Option.none⟩) S.size S.size) := by
  rw [St.kv_get]
  have : S.m.find? (fun z => z.1 == x) = some y := by
    revert hy hk
    induction S.m with
    | nil => intro hy; cases hy
    | cons z r ih =>
      intro hy hk
      simp only [List.map_cons, List.nodup_cons] at hk
      rcases List.mem_cons.1 hy with rfl | hy
      · simp [List.find?_cons, hx]
      · have hne : ¬ z.1 = x := fun e => hk.1 (List.mem_map.2 ⟨y, hy, by rw [hx, e]⟩)
        simp only [List.find?_cons]
        have : (z.1 == x) = false := by simpa using hne
        rw [this]; exact ih hy hk.2
  rw [this]; rfl

theorem eqn22 (a : Option Addr) (n c : Nat) (w : World) : (binOp .eql 22 (.slice a n c) (.slice Option.none 0 0)).run Try.prog w = .ok (.bool a.isNone) w :=
  Lib.run_eql_slice_nil (P := Try.prog) w 22 5 a n c 0 0 Try.underlying22

set_option maxHeartbeats 400000 in
theorem use_absent (h : StoreAt w p bm S) (id : Int) (r : Bool) (hin : id ∉ S.m.map (·.1)) :
    Calls Try.prog 22 #[.pointer (some ⟨p, 0, Option.none⟩), .int .i64 id, .bool r] w fun e w' => e = .returned (.int .i64 2) ∧ w = w' := by
  have hlk := run_lookup_kv (P := Try.prog) (t := 47) Try.underlying47 Try.underlying3 zero22 h.hm id
  rw [(St.kv_none S id).2 hin] at hlk
  simp only [Option.getD_none] at hlk
  have c3 := h.c3
  have eqn := eqn22
  go_enter Try.func22, Try.ntmps22
  go_wp2
  go_ret
  exact ⟨rfl, rfl⟩

set_option maxHeartbeats 400000 in
theorem use_wrong (h : StoreAt w p bm S) (id : Int) {y : Int × Nat × List Int} (hy : y ∈ S.m) (hid : y.1 = id) :
    Calls Try.prog 22 #[.pointer (some ⟨p, 0, Option.none⟩), .int .i64 id, .bool false] w fun e w' => e = .returned (.int .i64 1) ∧ w = w' := by
  have hlk := run_lookup_kv (P := Try.prog) (t := 47) Try.underlying47 Try.underlying3 zero22 h.hm id
  rw [St.kv_some S id hy hid h.hk] at hlk
  simp only [Option.getD_some] at hlk
  have c3 := h.c3
  have eqn := eqn22
  clear hid
  go_enter Try.func22, Try.ntmps22
  go_wp2
  go_ret
  exact ⟨rfl, rfl⟩

def UsePost (p bm : Nat) (S : St) (w : World) (e : Ending) (w' : World) : Prop :=
  e = .returned (.int .i64 (if S.fails then 9 else 0)) ∧ StoreAt w' p bm S.did ∧ Touch (· = p) w w'

set_option maxHeartbeats 400000 in
theorem use_there (h : StoreAt w p bm S) (ho : S.ops < 4611686018427387904) (id : Int) {y : Int × Nat × List Int} (hy : y ∈ S.m) (hid : y.1 = id) :
    Calls Try.prog 22 #[.pointer (some ⟨p, 0, Option.none⟩), .int .i64 id, .bool true] w (UsePost p bm S w) := by
  have hlk := run_lookup_kv (P := Try.prog) (t := 47) Try.underlying47 Try.underlying3 zero22 h.hm id
  rw [St.kv_some S id hy hid h.hk] at hlk
  simp only [Option.getD_some] at hlk
  have c3 := h.c3
  have eqn := eqn22
  have OP := Lib.hid (op_any h ho)
  clear hid
  cases hf : S.fails with
  | true =>
    have HF := Lib.hid hf
    clear hf
    go_enter Try.func22, Try.ntmps22
    go_wp2_with (go_at_call 21; refine OP.out.mono ?_; rintro e w1 ⟨he, s1, t1, z1⟩; rw [HF.out] at he; subst he)
    go_ret
    exact ⟨by rw [HF.out]; rfl, s1, t1⟩
  | false =>
    have HF := Lib.hid hf
    clear hf
    go_enter Try.func22, Try.ntmps22
    go_wp2_with (go_at_call 21; refine OP.out.mono ?_; rintro e w1 ⟨he, s1, t1, z1⟩; rw [HF.out] at he; subst he)
    go_ret
    exact ⟨by rw [HF.out]; rfl, s1, t1⟩

/-- Behind a block that was given back. -/
def St.gave (S : St) (id : Int) : St := { S with m := S.m.filter fun x => !(x.1 == id) }

theorem kv_del (S : St) (id : Int) (hk : (S.m.map (·.1)).Nodup) : mdel S.kv id = (S.gave id).kv := by
  unfold St.kv St.gave
  simp only
  revert hk
  induction S.m with
  | nil => intro _; rfl
  | cons z r ih =>
    intro hk
    simp only [List.map_cons, List.nodup_cons] at hk
    simp only [List.map_cons, mdel, List.filter_cons]
    by_cases hz : z.1 = id
    · have hr : r.filter (fun x => !(x.1 == id)) = r := by
        rw [List.filter_eq_self]
        intro x hx
        have : ¬ x.1 = id := fun e => hk.1 (List.mem_map.2 ⟨x, hx, by rw [e, hz]⟩)
        simpa using this
      simp [hz, hr]
    · have hb : (z.1 == id) = false := by simpa using hz
      simp [hz, hb, ih hk.2]

theorem gave_at {w w3 : World} (h : StoreAt w p bm S) (id : Int) (m3 : MapIs w3 bm (mdel S.kv id)) (t3 : Touch (· = bm) w w3) : StoreAt w3 p bm (S.gave id) := by
  rw [kv_del S id h.hk] at m3
  have sub : ∀ x ∈ (S.gave id).m, x ∈ S.m := fun x hx => (List.mem_filter.1 hx).1
  refine ⟨t3.heap (fun e => h.nepm e) h.hp, m3, fun x hx => t3.heap (h.nebm x (sub x hx)) (h.hb x (sub x hx)), fun x hx => h.hl x (sub x hx), ?_, ?_, h.hs, ?_⟩
  · exact List.Nodup.sublist (List.Sublist.map _ List.filter_sublist) h.hk
  · exact List.Nodup.sublist (List.Sublist.map _ List.filter_sublist) h.hn
  · have := h.hc
    have hle : (S.gave id).m.length ≤ S.m.length := List.length_filter_le _ _
    exact ⟨by show (S.gave id).m.length ≤ S.cap; omega, this.2⟩

def FreePost (p bm : Nat) (S : St) (id : Int) (w : World) (e : Ending) (w' : World) : Prop :=
  e = .returned (.int .i64 (if S.fails then 9 else 0)) ∧ StoreAt w' p bm (if S.fails then S.did else S.did.gave id) ∧ Touch (fun k => k = p ∨ k = bm) w w'

set_option maxHeartbeats 400000 in
theorem free_absent (h : StoreAt w p bm S) (id : Int) (hin : id ∉ S.m.map (·.1)) :
    Calls Try.prog 12 #[.pointer (some ⟨p, 0, Option.none⟩), .int .i64 id] w fun e w' => e = .returned (.int .i64 2) ∧ w = w' := by
  have US := Lib.hid (use_absent h id true hin)
  have HIN := Lib.hid hin
  clear hin
  go_enter Try.func12, Try.ntmps12
  go_wp2_with (go_at_call 22; refine US.out.mono ?_; rintro e w1 ⟨rfl, rfl⟩)
  go_ret
  exact ⟨rfl, rfl⟩

set_option maxHeartbeats 400000 in
theorem free_there (h : StoreAt w p bm S) (ho : S.ops < 4611686018427387904) (id : Int) {y : Int × Nat × List Int} (hy : y ∈ S.m) (hid : y.1 = id) :
    Calls Try.prog 12 #[.pointer (some ⟨p, 0, Option.none⟩), .int .i64 id] w (FreePost p bm S id w) := by
  have US := Lib.hid (use_there h ho id hy hid)
  clear hid hy
  cases hf : S.fails with
  | true =>
    have HF := Lib.hid hf
    clear hf
    go_enter Try.func12, Try.ntmps12
    go_wp2_with (go_at_call 22; refine US.out.mono ?_; rintro e w1 ⟨he, s1, t1⟩; rw [HF.out] at he; subst he)
    go_ret
    exact ⟨by rw [HF.out]; rfl, by rw [HF.out]; exact s1, t1.mono (fun _ _ e => .inl e)⟩
  | false =>
    have HF := Lib.hid hf
    clear hf
    go_enter Try.func12, Try.ntmps12
    go_wp2_with (go_at_call 22; refine US.out.mono ?_; rintro e w1 ⟨he, s1, t1⟩; rw [HF.out] at he; subst he; have c3 := s1.c3; obtain ⟨w3, hu, m3, t3, z3⟩ := run_delete_kv (P := Try.prog) (w := w1) Try.underlying47 Try.underlying3 0 3 s1.hm id; have Z3 := Lib.hid z3; clear z3)
    go_ret
    exact ⟨by rw [HF.out]; rfl, by rw [HF.out]; exact gave_at s1 id m3 t3, t1.trans' t3 (fun _ _ e => .inl e) (fun _ _ e => .inr e)⟩

/-! ### the counters -/
theorem used_any (h : StoreAt w p bm S) : Calls Try.prog 11 #[.pointer (some ⟨p, 0, Option.none⟩)] w fun e w' => e = .returned (.int .i64 S.m.length) ∧ w = w' := by
  have c3 := h.c3
  have hl : ∀ ty, (Builtin.len_ #[47] ty #[.map (some bm)]).run Try.prog w = .ok (.int .i64 S.m.length) w := fun ty => by
    have := run_len_kv (P := Try.prog) (t := 47) (w := w) Try.underlying47 ty h.hm
    rw [this]; simp [St.kv]
  go_enter Try.func11, Try.ntmps11
  go_wp2
  go_ret
  exact ⟨rfl, rfl⟩
theorem peak_any (h : StoreAt w p bm S) : Calls Try.prog 13 #[.pointer (some ⟨p, 0, Option.none⟩)] w fun e w' => e = .returned (.int .i64 S.peak) ∧ w = w' := by
  have c2 := h.c2
  go_enter Try.func13, Try.ntmps13
  go_wp2
  go_ret
  exact ⟨rfl, rfl⟩
theorem size_any (h : StoreAt w p bm S) : Calls Try.prog 19 #[.pointer (some ⟨p, 0, Option.none⟩)] w fun e w' => e = .returned (.int .i64 S.size) ∧ w = w' := by
  have c0 := h.c0
  go_enter Try.func19, Try.ntmps19
  go_wp2
  go_ret
  exact ⟨rfl, rfl⟩
theorem capacity_any (h : StoreAt w p bm S) : Calls Try.prog 20 #[.pointer (some ⟨p, 0, Option.none⟩)] w fun e w' => e = .returned (.int .i64 S.cap) ∧ w = w' := by
  have c1 := h.c1
  go_enter Try.func20, Try.ntmps20
  go_wp2
  go_ret
  exact ⟨rfl, rfl⟩
theorem failed_any (h : StoreAt w p bm S) : Calls Try.prog 18 #[.pointer (some ⟨p, 0, Option.none⟩)] w fun e w' => e = .returned (.bool S.failed) ∧ ∃ n, w' = w.drewN n := by
  have c6 := h.c6
  go_enter Try.func18, Try.ntmps18
  go_wp2
  go_ret
  exact ⟨rfl, 0, rfl⟩
theorem ops_any (h : StoreAt w p bm S) (ho : S.ops < 4611686018427387904) : Calls Try.prog 17 #[.pointer (some ⟨p, 0, Option.none⟩)] w fun e w' => e = .returned (.int .i64 S.ops) ∧ w = w' := by
  have c4 := h.c4
  have hld := run_call_load (P := Try.prog) (f := 26) (fn := Try.f26) (by kernel_rfl) (by kernel_rfl) (by kernel_rfl) (by kernel_rfl) .i64 ex26 (w := w) c4
  go_enter Try.func17, Try.ntmps17
  go_wp2
  go_ret
  exact ⟨rfl, rfl⟩
theorem failAt_any (h : StoreAt w p bm S) (n : Int) : Calls Try.prog 16 #[.pointer (some ⟨p, 0, Option.none⟩), .int .i64 n] w fun e w' => e = .returned (.tuple #[]) ∧ StoreAt w' p bm { S with fail := n } ∧ Touch (· = p) w w' := by
  have c5 := h.c5
  have f5 := h.fz 5
  have FIN := Lib.hid (And.intro (h.stored (S' := { S with fail := n }) 5 (.int .i64 n) (by simp [St.cells]) rfl rfl h.hc) (Touch.cell1 w p 5 (.int .i64 n)))
  go_enter Try.func16, Try.ntmps16
  go_wp2
  go_end0
  exact ⟨rfl, FIN.out⟩
end Go.Proofs.Ytaeicondmiikaaa
