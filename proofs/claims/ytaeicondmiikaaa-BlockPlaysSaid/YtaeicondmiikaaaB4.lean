/- What reading and writing a block of a store do. -/
import Derived.Test.YtaeicondmiikaaaB3
import Derived.Laws.CopyOwn
namespace Go.Proofs.Ytaeicondmiikaaa
open Go.RowKit Go.Maps
set_option linter.unusedSimpArgs false
set_option linter.unusedVariables false

variable {w : World} {p bm : Nat} {S : St}

def vals (l : List Int) : List Value := l.map (Value.int .u8)

def ClonePost (xs : List Int) (w : World) (e : Ending) (w' : World) : Prop :=
  ∃ g cap, e = .returned (.slice (some ⟨g, 0, Option.none⟩) xs.length cap) ∧ w'.ownsRow w.heap.size 5 1 (.slice (some ⟨g, 0, Option.none⟩) xs.length cap) xs.length (vals xs) ∧ Touch (fun _ => False) w w'

set_option maxHeartbeats 400000 in
theorem clone_any (ad : Addr) (c : Nat) (xs : List Int) (w : World) (hx : ∀ j u, (vals xs)[j]? = some u → w.cell? (ad.add j) = some u) (hlen : xs.length ≤ 140737488355328) :
    Calls Try.prog 23 #[.slice (some ad) xs.length c] w (ClonePost xs w) := by
  have eqn := eqn22
  obtain ⟨i, hi, hz, hs, hb⟩ := info_parts info5
  obtain ⟨v', w', hr, ho, hg, hv⟩ := run_append_own (P := Try.prog) (w.alloc (.cells #[] 5)) w.heap.size 22 22 5 i (.int .u8 0) 1 1 Try.underlying22 hi hz hs hb rfl (by decide)
    (.slice (some ⟨w.heap.size, 0, Option.none⟩) 0 0) 0 [] (World.ownsRow_made w #[] 0 (Nat.le_refl _) (by simp [maxLen]) rfl) ad xs.length c (vals xs) (by simp [vals])
    (fun j u hu => by
      have := hx j u hu
      rw [World.cell?_alloc_lt]
      · exact this
      · exact World.block_lt_of_cell? w _ this)
    (by intro u hu; simp only [vals, List.mem_map] at hu; obtain ⟨z, _, rfl⟩ := hu; rfl) (by simp only [maxLen]; omega) (by omega) (by simp)
  simp only [List.nil_append, Nat.zero_add] at ho
  have hv' : ¬ v' = .slice Option.none 0 0 := by rw [hv]; simp
  have fin : ClonePost xs w (.returned v') w' := by
    rcases ho.2 with ⟨h, _⟩ | ⟨g, cap, cur, rfl, r⟩
    · exact absurd h hv'
    · refine ⟨g, cap, rfl, ho, ?_⟩
      have t2 : Touch (fun k => k = w.heap.size) (w.alloc (.cells #[] 5)) w' := Touch.grown hg (fun k hk _ => by simpa [Value.ownBlock] using hk.symm)
      exact (Touch.alloc (fun _ => False) w _).trans' t2 (fun _ _ h => h) (fun i hi h => by omega)
  have FIN := Lib.hid fin
  have HR := Lib.hid hr
  clear fin hr ho hg hv hv' hx hi hz hs hb
  go_enter Try.func23, Try.ntmps23
  go_wp2_with (at_builtin; refine wpList_append_run rfl _ _ 22 22 rfl rfl rfl HR.out ?_)
  go_ret
  exact FIN.out

theorem StoreAt.rowCells (h : StoreAt w p bm S) {y : Int × Nat × List Int} (hy : y ∈ S.m) : ∀ j u, (vals y.2.2)[j]? = some u → w.cell? (Addr.add ⟨y.2.1, 0, Option.none⟩ j) = some u := by
  intro j u hu
  rw [show (Addr.add ⟨y.2.1, 0, Option.none⟩ j) = ⟨y.2.1, j, Option.none⟩ by simp [Addr.add_lit], cell_of_row _ _ _ _ _ _ (h.hb y hy)]
  simpa [bytesOf, vals] using hu

theorem clone_at (ad : Addr) (n c : Nat) (xs : List Int) (hn : xs.length = n) (w : World) (hx : ∀ j u, (vals xs)[j]? = some u → w.cell? (ad.add j) = some u) (hlen : n ≤ 140737488355328) :
    Calls Try.prog 23 #[.slice (some ad) n c] w (ClonePost xs w) := by
  subst hn
  exact clone_any ad c xs w hx hlen

theorem Touch.cell {F : Nat → Prop} {w w' : World} (t : Touch F w w') {a : Addr} {v : Value} (h : w.cell? a = some v) (hF : ¬ F a.block) : w'.cell? a = some v :=
  (World.cell?_of_block (t.block a.block (World.block_lt_of_cell? w a h) hF)).trans h

set_option maxHeartbeats 400000 in
theorem read_absent (h : StoreAt w p bm S) (id : Int) (hin : id ∉ S.m.map (·.1)) :
    Calls Try.prog 15 #[.pointer (some ⟨p, 0, Option.none⟩), .int .i64 id] w fun e w' => e = .returned (.tuple #[.slice Option.none 0 0, .int .i64 2]) ∧ w = w' := by
  have US := Lib.hid (use_absent h id true hin)
  clear hin
  go_enter Try.func15, Try.ntmps15
  go_wp2_with (go_at_call 22; refine US.out.mono ?_; rintro e w1 ⟨rfl, rfl⟩)
  go_ret2
  exact ⟨rfl, rfl⟩

set_option maxHeartbeats 400000 in
theorem read_fault (h : StoreAt w p bm S) (ho : S.ops < 4611686018427387904) (hf : S.fails = true) (id : Int) {y : Int × Nat × List Int} (hy : y ∈ S.m) (hid : y.1 = id) :
    Calls Try.prog 15 #[.pointer (some ⟨p, 0, Option.none⟩), .int .i64 id] w fun e w' => e = .returned (.tuple #[.slice Option.none 0 0, .int .i64 9]) ∧ StoreAt w' p bm S.did ∧ Touch (· = p) w w' := by
  have US := Lib.hid (use_there h ho id hy hid)
  have HF := Lib.hid hf
  clear hid hf
  go_enter Try.func15, Try.ntmps15
  go_wp2_with (go_at_call 22; refine US.out.mono ?_; rintro e w1 ⟨he, s1, t1⟩; rw [HF.out] at he; subst he)
  go_ret2
  exact ⟨rfl, s1, t1⟩

def ReadPost (p bm : Nat) (S : St) (bs : List Int) (w : World) (e : Ending) (w' : World) : Prop :=
  ∃ g cap, e = .returned (.tuple #[.slice (some ⟨g, 0, Option.none⟩) S.size cap, .int .i64 0]) ∧ w'.ownsRow w.heap.size 5 1 (.slice (some ⟨g, 0, Option.none⟩) S.size cap) S.size (vals bs) ∧ StoreAt w' p bm S.did ∧ Touch (· = p) w w'

set_option maxHeartbeats 400000 in
theorem read_ok (h : StoreAt w p bm S) (ho : S.ops < 4611686018427387904) (hf : S.fails = false) (id : Int) {y : Int × Nat × List Int} (hy : y ∈ S.m) (hid : y.1 = id) :
    Calls Try.prog 15 #[.pointer (some ⟨p, 0, Option.none⟩), .int .i64 id] w (ReadPost p bm S y.2.2 w) := by
  have US := Lib.hid (use_there h ho id hy hid)
  have HF := Lib.hid hf
  have HID := Lib.hid hid
  have hlen : y.2.2.length = S.size := h.hl y hy
  have hs := h.hs
  have HL := Lib.hid hlen
  have HLE : Hid (S.did.size ≤ 140737488355328) := show S.size ≤ _ by omega
  clear hid hf hlen
  go_enter Try.func15, Try.ntmps15
  go_wp2_with (first
    | (go_at_call 22; refine US.out.mono ?_; rintro e w1 ⟨he, s1, t1⟩; rw [HF.out] at he; subst he; have c3 := s1.c3; have hlk := run_lookup_kv (P := Try.prog) (t := 47) Try.underlying47 Try.underlying3 zero22 s1.hm id; rw [St.kv_some S.did id hy HID.out s1.hk] at hlk; simp only [Option.getD_some] at hlk)
    | (go_at_call 23; refine (clone_at _ _ _ y.2.2 HL.out _ (s1.rowCells hy) HLE.out).mono ?_; rintro e w2 ⟨g, cap, rfl, hown, t2⟩))
  go_ret2
  refine ⟨g, cap, ?_, ?_, s1.kept t2 (fun k _ h => h), t1.trans (t2.mono (fun _ _ h => h.elim))⟩
  · rw [← HL.out]; rfl
  · rw [HL.out] at hown
    obtain ⟨h1, h2⟩ := hown
    refine ⟨h1, ?_⟩
    rcases h2 with h2 | ⟨g', cap', cur, hv, hg, r⟩
    · exact .inl h2
    · exact .inr ⟨g', cap', cur, hv, Nat.le_trans t1.size hg, r⟩
end Go.Proofs.Ytaeicondmiikaaa
