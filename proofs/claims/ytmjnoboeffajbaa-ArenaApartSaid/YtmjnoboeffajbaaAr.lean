/- Bytes copied out of an arena and into it. -/
import Derived.Test.YtmjnoboeffajbaaAq
namespace Go.Proofs.Ytmjnoboeffajbaa
open Go.RowKit Go.Maps
set_option linter.unusedSimpArgs false
set_option linter.unusedVariables false

variable {w : World} {p : Nat} {A : Ar} {R : Rp}

def ClonePost (xs : List Int) (n : Nat) (w : World) (e : Ending) (w' : World) : Prop :=
  ∃ g cap, e = .returned (.slice (some ⟨g, 0, Option.none⟩) n cap) ∧ w'.ownsRow w.heap.size 5 1 (.slice (some ⟨g, 0, Option.none⟩) n cap) n (vals xs) ∧ Touch (fun _ => False) w w'

set_option maxHeartbeats 400000 in
theorem clone_any (ad : Addr) (n c : Nat) (xs : List Int) (hn : xs.length = n) (w : World) (hx : ∀ j u, (vals xs)[j]? = some u → w.cell? (ad.add j) = some u) (hlen : n ≤ 140737488355328) :
    Calls Try.prog 54 #[.slice (some ad) n c] w (ClonePost xs n w) := by
  subst hn
  have eqn := eqn22
  obtain ⟨i, hi, hz, hs, hb⟩ := info_parts info5
  obtain ⟨v', w', hr, ho, hg, hv⟩ := run_append_own (P := Try.prog) (w.alloc (.cells #[] 5)) w.heap.size 22 22 5 i (.int .u8 0) 1 1 Try.underlying22 hi hz hs hb rfl (by decide)
    (.slice (some ⟨w.heap.size, 0, Option.none⟩) 0 0) 0 [] (World.ownsRow_made w #[] 0 (Nat.le_refl _) (by simp [maxLen]) rfl) ad xs.length c (vals xs) (by simp [vals])
    (fun j u hu => by
      have := hx j u hu
      rw [World.cell?_alloc_lt]
      · exact this
      · exact World.block_lt_of_cell? w _ this)
    (by intro u hu; simp only [vals, List.mem_map] at hu; obtain ⟨z, _, rfl⟩ := hu; rfl) (by simp only [maxLen]; omega) (by omega) (by simp)
  simp only [List.nil_append, Nat.zero_add] at ho
  have hv' : ¬ v' = .slice Option.none 0 0 := by rw [hv]; simp
  have fin : ClonePost xs xs.length w (.returned v') w' := by
    rcases ho.2 with ⟨h, _⟩ | ⟨g, cap, cur, rfl, r⟩
    · exact absurd h hv'
    · refine ⟨g, cap, rfl, ho, ?_⟩
      have t2 : Touch (fun k => k = w.heap.size) (w.alloc (.cells #[] 5)) w' := Touch.grown hg (fun k hk _ => by simpa [Value.ownBlock] using hk.symm)
      exact (Touch.alloc (fun _ => False) w _).trans' t2 (fun _ _ h => h) (fun i hi h => by omega)
  have FIN := Lib.hid fin
  have HR := Lib.hid hr
  clear fin hr ho hg hv hv' hx hi hz hs hb
  go_enter Try.func54, Try.ntmps54
  go_wp2_with (at_builtin; refine wpList_append_run rfl _ _ 22 22 rfl rfl rfl HR.out ?_)
  go_ret
  exact FIN.out

theorem ArAt.bufCells (h : ArAt w p A R) (x n : Nat) (hx : x + n ≤ A.n) : ∀ j u, (vals ((A.b.drop x).take n))[j]? = some u → w.cell? (Addr.add ⟨R.buf, x, Option.none⟩ j) = some u := by
  intro j u hu
  rw [Addr.add_lit, cell_of_row _ _ _ _ _ _ h.hb]
  simp only [vals, List.getElem?_map, List.getElem?_take, List.getElem?_drop] at hu
  split at hu
  · simpa [bytesOf] using hu
  · simp at hu

def BytesPost (xs : List Int) (n : Nat) (w : World) (e : Ending) (w' : World) : Prop :=
  ∃ g cap, e = .returned (.tuple #[.slice (some ⟨g, 0, Option.none⟩) n cap, .int .i64 0]) ∧ w'.ownsRow w.heap.size 5 1 (.slice (some ⟨g, 0, Option.none⟩) n cap) n (vals xs) ∧ Touch (fun _ => False) w w'

set_option maxHeartbeats 400000 in
theorem bytes_ok (h : ArAt w p A R) (x n : Nat) (hx : x + n ≤ A.n) (h0 : 0 < n) (xs : List Int) (hxs : (A.b.drop x).take n = xs) :
    Calls Try.prog 27 #[.pointer (some ⟨p, 0, Option.none⟩), .int .i64 x, .int .i64 n] w (BytesPost xs n w) := by
  have PT := Lib.hid (part_ok h x n hx h0)
  have hlen : xs.length = n := by rw [← hxs]; simp; rw [h.hbl]; omega
  have CL := Lib.hid (clone_any ⟨R.buf, x, Option.none⟩ n (A.n - x) xs hlen w (by rw [← hxs]; exact h.bufCells x n hx) (by have := h.hn; omega))
  clear h hlen hxs
  go_enter Try.func27, Try.ntmps27
  go_wp2_with fail
  refine PT.out.mono ?_
  rintro e w1 ⟨rfl, rfl⟩
  go_wp2_with fail
  refine CL.out.mono ?_
  rintro e w2 ⟨g, cap, rfl, ho, t⟩
  go_wp2_with fail
  go_ret2
  exact ⟨g, cap, rfl, ho, t⟩

theorem run_copy22 (g o n c c' : Nat) (ad : Addr) (b xs : List Int) (w : World) (hg : w.heap[g]? = some (.cells (bytesOf b) 5 (0, 0))) (hb : xs.length = n) (ho : o + n ≤ b.length)
    (hx : ∀ j u, (vals xs)[j]? = some u → w.cell? (ad.add j) = some u) (ty : TypeId) :
    (Builtin.copy_ #[22, 22] ty #[.slice (some ⟨g, o, Option.none⟩) n c, .slice (some ad) n c']).run Try.prog w = .ok (.int .i64 n) (w.setRow g (bytesOf (over b o xs))) := by
  have := run_copy_row (P := Try.prog) w 22 22 ty 5 g o n c ad n c' (bytesOf b) 5 (vals xs) Try.underlying22 (by kernel_rfl) hg (by simp [vals, hb]) hx (by simp [vals, bytesOf, hb]; omega)
    (by intro u hu; simp only [vals, List.mem_map] at hu; obtain ⟨z, _, rfl⟩ := hu; rfl)
  have e1 : goInt (vals xs).length = .int .i64 n := by simp [vals, hb, goInt]
  have e2 : ((bytesOf b).toList.take o ++ vals xs ++ (bytesOf b).toList.drop (o + (vals xs).length)).toArray = bytesOf (over b o xs) := by
    simp [bytesOf, over, vals, List.map_take, List.map_drop]
  rw [this, e1, e2]

set_option maxHeartbeats 400000 in
theorem copy_ok (h : ArAt w p A R) (x n c : Nat) (hx : x + n ≤ A.n) (h0 : 0 < n) (ad : Addr) (xs : List Int) (hn : xs.length = n) (hcell : ∀ j u, (vals xs)[j]? = some u → w.cell? (ad.add j) = some u) :
    Calls Try.prog 26 #[.pointer (some ⟨p, 0, Option.none⟩), .int .i64 x, .slice (some ad) n c] w fun e w' => e = .returned (.int .i64 0) ∧ ArAt w' p { A with b := over A.b x xs } R ∧ Touch (· = R.buf) w w' := by
  have PT := Lib.hid (part_ok h x n hx h0)
  have hcp := run_copy22 R.buf x n (A.n - x) c ad A.b xs w h.hb hn (by rw [h.hbl]; exact hx) hcell
  have FIN := Lib.hid (And.intro (h.wrote (over A.b x xs) (by rw [length_over (by rw [h.hbl, hn]; exact hx), h.hbl])) (Touch.setRow w R.buf (bytesOf (over A.b x xs))))
  clear h hcell hn
  go_enter Try.func26, Try.ntmps26
  go_wp2_with fail
  refine PT.out.mono ?_
  rintro e w1 ⟨rfl, rfl⟩
  go_wp2_with fail
  go_ret
  exact ⟨rfl, FIN.out⟩
end Go.Proofs.Ytmjnoboeffajbaa
