/- What writing a block of a store does. -/
import Derived.Test.YtaeicondmiikaaaB4
namespace Go.Proofs.Ytaeicondmiikaaa
open Go.RowKit Go.Maps
set_option linter.unusedSimpArgs false
set_option linter.unusedVariables false

variable {w : World} {p bm : Nat} {S : St}

set_option maxHeartbeats 400000 in
theorem write_absent (h : StoreAt w p bm S) (id : Int) (hin : id ∉ S.m.map (·.1)) (a : Option Addr) (n c : Nat) :
    Calls Try.prog 14 #[.pointer (some ⟨p, 0, Option.none⟩), .int .i64 id, .slice a n c] w fun e w' => e = .returned (.int .i64 2) ∧ w = w' := by
  have US := Lib.hid (fun r => use_absent h id r hin)
  have c0 := h.c0
  clear hin
  go_enter Try.func14, Try.ntmps14
  go_wp2_with (go_at_call 22; refine (US.out _).mono ?_; rintro e w1 ⟨rfl, rfl⟩)
  go_ret
  exact ⟨rfl, rfl⟩

set_option maxHeartbeats 400000 in
theorem write_wrong (h : StoreAt w p bm S) (id : Int) {y : Int × Nat × List Int} (hy : y ∈ S.m) (hid : y.1 = id) (a : Option Addr) (n c : Nat) (hn : n ≠ S.size) :
    Calls Try.prog 14 #[.pointer (some ⟨p, 0, Option.none⟩), .int .i64 id, .slice a n c] w fun e w' => e = .returned (.int .i64 1) ∧ w = w' := by
  have US := Lib.hid (use_wrong h id hy hid)
  have c0 := h.c0
  have hne : ((n : Int) == (S.size : Int)) = false := by simp; omega
  clear hid
  go_enter Try.func14, Try.ntmps14
  go_wp2_with (go_at_call 22; refine US.out.mono ?_; rintro e w1 ⟨rfl, rfl⟩)
  go_ret
  exact ⟨rfl, rfl⟩

/-- Behind a block that was written. -/
def St.wrote (S : St) (id : Int) (bs : List Int) : St := { S with m := S.m.map fun x => if x.1 == id then (x.1, x.2.1, bs) else x }

theorem wrote_keys (S : St) (id : Int) (bs : List Int) : (S.wrote id bs).m.map (·.1) = S.m.map (·.1) := by
  simp only [St.wrote, List.map_map]
  apply List.map_congr_left
  intro x _
  simp only [Function.comp]
  split <;> rfl
theorem wrote_blocks (S : St) (id : Int) (bs : List Int) : (S.wrote id bs).m.map (·.2.1) = S.m.map (·.2.1) := by
  simp only [St.wrote, List.map_map]
  apply List.map_congr_left
  intro x _
  simp only [Function.comp]
  split <;> rfl
theorem wrote_kv (S : St) (id : Int) (bs : List Int) : (S.wrote id bs).kv = S.kv := by
  simp only [St.wrote, St.kv, List.map_map]
  apply List.map_congr_left
  intro x _
  simp only [Function.comp]
  split <;> rfl

theorem Touch.setRow (w : World) (g : Nat) (cs : Array Value) : Touch (· = g) w (w.setRow g cs) :=
  ⟨rfl, rfl, rfl, by simp [World.setRow], fun k _ hk => setRow_other w g k cs hk⟩

theorem nodup_eq {l : List (Int × Nat × List Int)} (h : (l.map (·.1)).Nodup) {x y : Int × Nat × List Int} (hx : x ∈ l) (hy : y ∈ l) (e : x.1 = y.1) : x = y := by
  induction l with
  | nil => cases hx
  | cons z r ih =>
    simp only [List.map_cons, List.nodup_cons] at h
    rcases List.mem_cons.1 hx with rfl | hx1 <;> rcases List.mem_cons.1 hy with rfl | hy1
    · rfl
    · exact absurd (List.mem_map.2 ⟨y, hy1, e.symm⟩) h.1
    · exact absurd (show y.1 ∈ r.map (fun x => x.1) from List.mem_map.2 ⟨x, hx1, e⟩) h.1
    · exact ih h.2 hx1 hy1

theorem nodup_eq2 {l : List (Int × Nat × List Int)} (h : (l.map (·.2.1)).Nodup) {x y : Int × Nat × List Int} (hx : x ∈ l) (hy : y ∈ l) (e : x.2.1 = y.2.1) : x = y := by
  induction l with
  | nil => cases hx
  | cons z r ih =>
    simp only [List.map_cons, List.nodup_cons] at h
    rcases List.mem_cons.1 hx with rfl | hx1 <;> rcases List.mem_cons.1 hy with rfl | hy1
    · rfl
    · exact absurd (List.mem_map.2 ⟨y, hy1, e.symm⟩) h.1
    · exact absurd (show y.2.1 ∈ r.map (fun x => x.2.1) from List.mem_map.2 ⟨x, hx1, e⟩) h.1
    · exact ih h.2 hx1 hy1

theorem wrote_at (h : StoreAt w p bm S) {y : Int × Nat × List Int} (hy : y ∈ S.m) (bs : List Int) (hb : bs.length = S.size) : StoreAt (w.setRow y.2.1 (bytesOf bs)) p bm (S.wrote y.1 bs) := by
  have t := Touch.setRow w y.2.1 (bytesOf bs)
  refine ⟨t.heap (fun e => h.nebp y hy e.symm) h.hp, ?_, ?_, ?_, by rw [wrote_keys]; exact h.hk, by rw [wrote_blocks]; exact h.hn, h.hs, ?_⟩
  · rw [wrote_kv]; exact t.map (fun e => h.nebm y hy e.symm) h.hm
  · intro x hx
    simp only [St.wrote, List.mem_map] at hx
    obtain ⟨z, hz, rfl⟩ := hx
    by_cases hzy : z.1 = y.1
    · obtain rfl := nodup_eq h.hk hz hy hzy
      simp only [beq_self_eq_true, if_true]
      exact setRow_heap w z.2.1 _ _ 5 (0, 0) (h.hb z hz)
    · have : (z.1 == y.1) = false := by simpa using hzy
      rw [this]
      refine t.heap (fun e => hzy ?_) (h.hb z hz)
      rw [nodup_eq2 h.hn hz hy e]
  · intro x hx
    simp only [St.wrote, List.mem_map] at hx
    obtain ⟨z, hz, rfl⟩ := hx
    split
    · exact hb
    · exact h.hl z hz
  · have := h.hc
    simpa [St.wrote] using this

set_option maxHeartbeats 400000 in
theorem write_fault (h : StoreAt w p bm S) (ho : S.ops < 4611686018427387904) (hf : S.fails = true) (id : Int) {y : Int × Nat × List Int} (hy : y ∈ S.m) (hid : y.1 = id) (a : Option Addr) (n c : Nat) (hn : n = S.size) :
    Calls Try.prog 14 #[.pointer (some ⟨p, 0, Option.none⟩), .int .i64 id, .slice a n c] w fun e w' => e = .returned (.int .i64 9) ∧ StoreAt w' p bm S.did ∧ Touch (· = p) w w' := by
  have US := Lib.hid (use_there h ho id hy hid)
  have HF := Lib.hid hf
  have c0 := h.c0
  have hne : ((n : Int) == (S.size : Int)) = true := by simp; omega
  clear hid hf hn
  go_enter Try.func14, Try.ntmps14
  go_wp2_with (go_at_call 22; refine US.out.mono ?_; rintro e w1 ⟨he, s1, t1⟩; rw [HF.out] at he; subst he)
  go_ret
  exact ⟨rfl, s1, t1⟩

theorem run_copy22 (g : Nat) (n : Nat) (ad : Addr) (c : Nat) (old bs : List Int) (w : World) (hg : w.heap[g]? = some (.cells (bytesOf old) 5 (0, 0))) (ho : old.length = n) (hb : bs.length = n)
    (hx : ∀ j u, (vals bs)[j]? = some u → w.cell? (ad.add j) = some u) (ty : TypeId) :
    (Builtin.copy_ #[22, 22] ty #[.slice (some ⟨g, 0, Option.none⟩) n n, .slice (some ad) n c]).run Try.prog w = .ok (.int .i64 n) (w.setRow g (bytesOf bs)) := by
  have := run_copy_row (P := Try.prog) w 22 22 ty 5 g 0 n n ad n c (bytesOf old) 5 (vals bs) Try.underlying22 (by kernel_rfl) hg (by simp [vals, hb]) hx (by simp [vals, bytesOf, hb, ho])
    (by intro u hu; simp only [vals, List.mem_map] at hu; obtain ⟨z, _, rfl⟩ := hu; rfl)
  rw [this]
  have e1 : (bytesOf old).toList.drop (0 + (vals bs).length) = [] := by
    apply List.drop_eq_nil_of_le
    simp [vals, bytesOf, hb, ho]
  rw [e1]
  simp [bytesOf, vals, hb, goInt]

def WritePost (p bm : Nat) (S : St) (id : Int) (bs : List Int) (w : World) (e : Ending) (w' : World) : Prop :=
  e = .returned (.int .i64 0) ∧ StoreAt w' p bm (S.did.wrote id bs) ∧ Touch (fp S p bm) w w'

set_option maxHeartbeats 400000 in
theorem write_ok (h : StoreAt w p bm S) (ho : S.ops < 4611686018427387904) (hf : S.fails = false) (id : Int) {y : Int × Nat × List Int} (hy : y ∈ S.m) (hid : y.1 = id) (ad : Addr) (n c : Nat) (hn : n = S.size)
    (bs : List Int) (hb : bs.length = n) (hx : ∀ j u, (vals bs)[j]? = some u → w.cell? (ad.add j) = some u) (had : ¬ fp S p bm ad.block) :
    Calls Try.prog 14 #[.pointer (some ⟨p, 0, Option.none⟩), .int .i64 id, .slice (some ad) n c] w (WritePost p bm S id bs w) := by
  have US := Lib.hid (use_there h ho id hy hid)
  have HF := Lib.hid hf
  have c0 := h.c0
  have hne : ((n : Int) == (S.size : Int)) = true := by simp; omega
  have HID := Lib.hid hid
  have HN := Lib.hid hn
  have HB := Lib.hid hb
  have hab : ∀ j, (ad.add j).block = ad.block := fun j => by unfold Addr.add; split <;> rfl
  have HX := Lib.hid hx
  have HAB := Lib.hid hab
  clear hid hf hn hb hx hab
  go_enter Try.func14, Try.ntmps14
  go_wp2_with (go_at_call 22; refine US.out.mono ?_; rintro e w1 ⟨he, s1, t1⟩; rw [HF.out] at he; subst he; have c3 := s1.c3; have hlk := run_lookup_kv (P := Try.prog) (t := 47) Try.underlying47 Try.underlying3 zero22 s1.hm id; rw [St.kv_some S.did id hy HID.out s1.hk] at hlk; simp only [Option.getD_some] at hlk; rw [show S.did.size = n from HN.out.symm] at hlk; have hcp := run_copy22 y.2.1 n ad c y.2.2 bs w1 (s1.hb y hy) ((s1.hl y hy).trans HN.out.symm) HB.out (fun j u hu => t1.cell (HX.out j u hu) (fun e => had (.inl ((HAB.out j).symm.trans e)))))
  go_ret
  refine ⟨rfl, ?_, ?_⟩
  · rw [← HID.out]
    exact wrote_at s1 hy bs (HB.out.trans HN.out)
  · exact t1.trans' (Touch.setRow w1 _ _) (fun _ _ e => .inl e) (fun _ _ e => .inr (.inr (List.mem_map.2 ⟨y, hy, e.symm⟩)))
end Go.Proofs.Ytaeicondmiikaaa
