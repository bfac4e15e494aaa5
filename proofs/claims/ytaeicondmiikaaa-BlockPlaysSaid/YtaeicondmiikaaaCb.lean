/- BlockPlays: a store that is played with, beside the law's pages: what each call comes to. -/
import Derived.Test.YtaeicondmiikaaaCa
namespace Go.Proofs.Ytaeicondmiikaaa
open Go.RowKit Go.Maps
set_option linter.unusedSimpArgs false
set_option linter.unusedVariables false

theorem info44 : (Try.prog.info? 44).map (fun i => (i.zero, i.size, i.bytes)) = some (some (.agg #[.bool false, .int .u8 0]), 2, 2) := by kernel_rfl
theorem made_pages (k : Nat) : madeCells #[.bool false, .int .u8 0] (k * 2) = (PE.fl (List.replicate k ⟨false, 0⟩)).toArray := by
  apply Array.ext
  · simp [size_madeCells, El.fl_length]
  · intro i h1 h2
    have hi : i < k * 2 := by simpa [size_madeCells] using h1
    have hr : (List.replicate k (⟨false, 0⟩ : Pg))[i / 2]? = some ⟨false, 0⟩ := by rw [List.getElem?_replicate, if_pos (by omega)]
    have hg := PE.fl_get hr (f := i % 2) (by show i % 2 < 2; omega)
    have e : i / 2 * PE.K + i % 2 = i := by show i / 2 * 2 + i % 2 = i; omega
    rw [e] at hg
    rw [List.getElem_toArray]
    have h3 : i < (PE.fl (List.replicate k ⟨false, 0⟩)).length := by simpa using h2
    rw [List.getElem?_eq_getElem h3] at hg
    have hc : (PE.ce ⟨false, 0⟩)[i % 2]? = some ((madeCells #[.bool false, .int .u8 0] (k * 2))[i]) := by
      rcases Nat.mod_two_eq_zero_or_one i with h | h <;> simp [madeCells, h, PE]
    rw [hc] at hg
    exact (Option.some.inj hg).symm
theorem run_make40 (k : Nat) (h : k ≤ 1024) (w : World) : (Instr.makeSlice 40 (.int .i64 k) (.int .i64 k)).run Try.prog w = .ok (.slice (some ⟨w.heap.size, 0, Option.none⟩) k k) (w.alloc (.cells (PE.fl (List.replicate k ⟨false, 0⟩)).toArray 44)) := by
  obtain ⟨i, hi, hz, hs, hb⟩ := info_parts info44
  have := run_make (P := Try.prog) w 40 44 i _ Try.underlying40 hi hz .i64 .i64 k k (by omega) (by omega) (by rw [hb]; omega) (by omega)
  rw [this, hs]
  simp [Value.cells, made_pages]

structure BPlays (w : World) (size cap : Nat) (fail : Int) (k gl p bm : Nat) (wr : World) (S : St) (li lr : List Pg) (i : Nat) : Prop where
  st : StoreAt wr p bm S
  e1 : S.size = size
  e2 : S.cap = cap
  e3 : S.fail = fail
  kl : li.length = k
  kc : k = min cap 70
  row : PRow wr gl lr
  off : ¬ fp S p bm gl
  hg : w.heap.size ≤ gl
  hf : ∀ q, fp S p bm q → w.heap.size ≤ q
  bel : Below w.heap.size w wr
  inv : BInv S li size i
def BTo (w : World) (size cap : Nat) (fail : Int) (k gl p bm : Nat) (wr : World) (S S' : St) (li lr : List Pg) (i : Nat) (v : Value) (e : Ending) (w' : World) : Prop :=
  e = .returned v ∧ BPlays w size cap fail k gl p bm w' S' li lr i ∧ Touch (fp S p bm) wr w'
variable {w wr w' : World} {size cap : Nat} {fail : Int} {k gl p bm : Nat} {S : St} {li lr : List Pg} {i : Nat}
namespace BPlays
theorem ltg (h : BPlays w size cap fail k gl p bm wr S li lr i) : gl < wr.heap.size := (Array.getElem?_eq_some_iff.1 h.row).1
theorem ltf (h : BPlays w size cap fail k gl p bm wr S li lr i) : ∀ q, fp S p bm q → q < wr.heap.size := by
  rintro q (rfl | rfl | hq)
  · exact h.st.ltp
  · exact h.st.ltm
  · obtain ⟨x, hx, rfl⟩ := List.mem_map.1 hq
    exact h.st.ltb x hx
theorem small (h : BPlays w size cap fail k gl p bm wr S li lr i) (hi : i ≤ 60) : S.ops < 4611686018427387904 := by have := h.inv.ops; omega
theorem fresh (h : BPlays w size cap fail k gl p bm wr S li lr i) (t : Touch (fun _ => False) wr w') : BPlays w size cap fail k gl p bm w' S li lr i :=
  ⟨h.st.kept t (fun _ _ h => h), h.e1, h.e2, h.e3, h.kl, h.kc, t.heap (fun h => h) h.row, h.off, h.hg, h.hf, h.bel.trans (t.toBelow h.bel.size (fun _ h => h.elim)), h.inv⟩
theorem poke (h : BPlays w size cap fail k gl p bm wr S li lr i) {z : Nat} (hz : w.heap.size ≤ z) (hf : ¬ fp S p bm z) (hg : gl ≠ z) (t : Touch (· = z) wr w') : BPlays w size cap fail k gl p bm w' S li lr i :=
  ⟨h.st.kept t (fun q hq e => by rw [e] at hq; exact hf hq), h.e1, h.e2, h.e3, h.kl, h.kc, t.heap hg h.row, h.off, h.hg, h.hf, h.bel.trans (t.toBelow h.bel.size (fun q hq => by rw [hq]; exact hz)), h.inv⟩
theorem rowed (h : BPlays w size cap fail k gl p bm wr S li lr i) {l : List Pg} (r : PRow w' gl l) (t : Touch (· = gl) wr w') : BPlays w size cap fail k gl p bm w' S li l i :=
  ⟨h.st.kept t (fun q hq e => by rw [e] at hq; exact h.off hq), h.e1, h.e2, h.e3, h.kl, h.kc, r, h.off, h.hg, h.hf, h.bel.trans (t.toBelow h.bel.size (fun q hq => by rw [hq]; exact h.hg)), h.inv⟩
/-- The store's operation was counted. -/
theorem did (h : BPlays w size cap fail k gl p bm wr S li lr i) {G : Nat → Prop} (s : StoreAt w' p bm S.did) (t : Touch G wr w') (hG : ∀ q, G q → fp S p bm q) : BPlays w size cap fail k gl p bm w' S.did li lr (i + 1) ∧ Touch (fp S p bm) wr w' :=
  ⟨⟨s, h.e1, h.e2, h.e3, h.kl, h.kc, t.heap (fun e => h.off (hG _ e)) h.row, h.off, h.hg, h.hf, h.bel.trans (t.toBelow h.bel.size (fun q hq => h.hf q (hG q hq))), h.inv.did⟩, t.mono (fun q _ hq => hG q hq)⟩
theorem same (h : BPlays w size cap fail k gl p bm wr S li lr i) : BPlays w size cap fail k gl p bm wr S li lr (i + 1) := ⟨h.st, h.e1, h.e2, h.e3, h.kl, h.kc, h.row, h.off, h.hg, h.hf, h.bel, h.inv.mono⟩

theorem allocF (h : BPlays w size cap fail k gl p bm wr S li lr i) (hi : i ≤ 60) (hF : S.fails = true) : Calls Try.prog 10 #[.pointer (some ⟨p, 0, Option.none⟩)] wr (BTo w size cap fail k gl p bm wr S S.did li lr (i + 1) (.tuple #[.int .i64 0, .int .i64 9])) := by
  refine (alloc_fault h.st (h.small hi) hF).mono ?_
  rintro e w' ⟨rfl, s, t⟩
  exact ⟨rfl, h.did s t (fun q hq => .inl hq)⟩
theorem allocFull (h : BPlays w size cap fail k gl p bm wr S li lr i) (hi : i ≤ 60) (hF : S.fails = false) (hc : S.m.length = cap) : Calls Try.prog 10 #[.pointer (some ⟨p, 0, Option.none⟩)] wr (BTo w size cap fail k gl p bm wr S S.did li lr (i + 1) (.tuple #[.int .i64 0, .int .i64 8])) := by
  refine (alloc_full h.st (h.small hi) hF (by rw [h.e2]; exact hc)).mono ?_
  rintro e w' ⟨rfl, s, t⟩
  exact ⟨rfl, h.did s t (fun q hq => .inl hq)⟩
def Got (w : World) (size cap : Nat) (fail : Int) (k gl p bm : Nat) (wr : World) (S : St) (li lr : List Pg) (i : Nat) (e : Ending) (w' : World) : Prop :=
  ∃ id blk : Nat, e = .returned (.tuple #[.int .i64 id, .int .i64 0]) ∧ BPlays w size cap fail k gl p bm w' (S.did.took id blk) (li.set id ⟨true, 0⟩) lr (i + 1) ∧ Touch (fp S p bm) wr w' ∧ (∀ j, j < id → ∃ v, li[j]? = some ⟨true, v⟩) ∧ ∃ v, li[id]? = some ⟨false, v⟩
theorem allocOk (h : BPlays w size cap fail k gl p bm wr S li lr i) (hi : i < 60) (hF : S.fails = false) (hc : ¬ S.m.length = cap) : Calls Try.prog 10 #[.pointer (some ⟨p, 0, Option.none⟩)] wr (Got w size cap fail k gl p bm wr S li lr i) := by
  have hcc := h.st.hc.1
  rw [h.e2] at hcc
  refine (alloc_ok h.st (h.small (by omega)) hF (by rw [h.e2]; omega)).mono ?_
  rintro e w' ⟨id, blk, hfr, rfl, s, hblk, t⟩
  have hl : S.m.length < li.length := by
    have := h.inv.len
    have := h.kl
    have := h.kc
    omega
  have hf' : Free S id := hfr
  obtain ⟨f1, f2⟩ := h.inv.free hf' hl
  have tt : Touch (fp S p bm) wr w' := t.mono (fun q _ hq => by rcases hq with rfl | rfl; exact .inl rfl; exact .inr (.inl rfl))
  have hgl := h.ltg
  refine ⟨id, blk, rfl, ⟨s, h.e1, h.e2, h.e3, by rw [List.length_set]; exact h.kl, h.kc, tt.heap h.off h.row, ?_, h.hg, ?_, h.bel.trans (tt.toBelow h.bel.size h.hf), h.inv.took h.e1 hf' hl⟩, tt, f1, f2⟩
  · rintro (e | e | e)
    · exact h.off (.inl e)
    · exact h.off (.inr (.inl e))
    · have e' : gl ∈ (S.m ++ [((id : Int), blk, zeros S.size)]).map (·.2.1) := e
      rw [List.map_append] at e'
      rcases List.mem_append.1 e' with e' | e'
      · exact h.off (.inr (.inr e'))
      · simp at e'; omega
  · rintro q (e | e | e)
    · exact h.hf q (.inl e)
    · exact h.hf q (.inr (.inl e))
    · have e' : q ∈ (S.m ++ [((id : Int), blk, zeros S.size)]).map (·.2.1) := e
      rw [List.map_append] at e'
      rcases List.mem_append.1 e' with e' | e'
      · exact h.hf q (.inr (.inr e'))
      · simp at e'
        have := h.bel.size
        omega
theorem freeA (h : BPlays w size cap fail k gl p bm wr S li lr i) (id : Int) (hid : id ∉ S.m.map (·.1)) : Calls Try.prog 12 #[.pointer (some ⟨p, 0, Option.none⟩), .int .i64 id] wr (BTo w size cap fail k gl p bm wr S S li lr (i + 1) (.int .i64 2)) := by
  refine (free_absent h.st id hid).mono ?_
  rintro e w' ⟨rfl, rfl⟩
  exact ⟨rfl, h.same, Touch.refl _ _⟩
theorem freeF (h : BPlays w size cap fail k gl p bm wr S li lr i) (hi : i ≤ 60) (hF : S.fails = true) {j v : Nat} (hj : li[j]? = some ⟨true, v⟩) : Calls Try.prog 12 #[.pointer (some ⟨p, 0, Option.none⟩), .int .i64 j] wr (BTo w size cap fail k gl p bm wr S S.did li lr (i + 1) (.int .i64 9)) := by
  obtain ⟨y, hy, e, _⟩ := h.inv.there hj
  refine (free_there h.st (h.small hi) (j : Int) hy e).mono ?_
  rintro e w' ⟨rfl, s, t⟩
  rw [hF] at s ⊢
  exact ⟨rfl, h.did s t (fun q hq => by rcases hq with rfl | rfl; exact .inl rfl; exact .inr (.inl rfl))⟩
theorem freeOk (h : BPlays w size cap fail k gl p bm wr S li lr i) (hi : i ≤ 60) (hF : S.fails = false) {j v : Nat} (hj : li[j]? = some ⟨true, v⟩) : Calls Try.prog 12 #[.pointer (some ⟨p, 0, Option.none⟩), .int .i64 j] wr (BTo w size cap fail k gl p bm wr S (S.did.gave (j : Int)) (li.set j ⟨false, 0⟩) lr (i + 1) (.int .i64 0)) := by
  obtain ⟨y, hy, e, _⟩ := h.inv.there hj
  refine (free_there h.st (h.small hi) (j : Int) hy e).mono ?_
  rintro e w' ⟨rfl, s, t⟩
  rw [hF] at s ⊢
  have tt : Touch (fp S p bm) wr w' := t.mono (fun q _ hq => by rcases hq with rfl | rfl; exact .inl rfl; exact .inr (.inl rfl))
  have sub : ∀ q, fp (S.did.gave (j : Int)) p bm q → fp S p bm q := by
    rintro q (e | e | e)
    · exact .inl e
    · exact .inr (.inl e)
    · obtain ⟨x, hx, e'⟩ := List.mem_map.1 e
      exact .inr (.inr (List.mem_map.2 ⟨x, (List.mem_filter.1 hx).1, e'⟩))
  exact ⟨rfl, ⟨s, h.e1, h.e2, h.e3, by rw [List.length_set]; exact h.kl, h.kc, tt.heap h.off h.row, fun e => h.off (sub _ e), h.hg, fun q hq => h.hf q (sub q hq), h.bel.trans (tt.toBelow h.bel.size h.hf), h.inv.gave hj⟩, tt⟩
theorem readA (h : BPlays w size cap fail k gl p bm wr S li lr i) (id : Int) (hid : id ∉ S.m.map (·.1)) : Calls Try.prog 15 #[.pointer (some ⟨p, 0, Option.none⟩), .int .i64 id] wr (BTo w size cap fail k gl p bm wr S S li lr (i + 1) (.tuple #[.slice Option.none 0 0, .int .i64 2])) := by
  refine (read_absent h.st id hid).mono ?_
  rintro e w' ⟨rfl, rfl⟩
  exact ⟨rfl, h.same, Touch.refl _ _⟩
theorem readF (h : BPlays w size cap fail k gl p bm wr S li lr i) (hi : i ≤ 60) (hF : S.fails = true) {j v : Nat} (hj : li[j]? = some ⟨true, v⟩) : Calls Try.prog 15 #[.pointer (some ⟨p, 0, Option.none⟩), .int .i64 j] wr (BTo w size cap fail k gl p bm wr S S.did li lr (i + 1) (.tuple #[.slice Option.none 0 0, .int .i64 9])) := by
  obtain ⟨y, hy, e, _⟩ := h.inv.there hj
  refine (read_fault h.st (h.small hi) hF (j : Int) hy e).mono ?_
  rintro e w' ⟨rfl, s, t⟩
  exact ⟨rfl, h.did s t (fun q hq => .inl hq)⟩
def Red (w : World) (size cap : Nat) (fail : Int) (k gl p bm : Nat) (wr : World) (S : St) (li lr : List Pg) (i v : Nat) (e : Ending) (w' : World) : Prop :=
  ∃ g c, e = .returned (.tuple #[.slice (some ⟨g, 0, Option.none⟩) size c, .int .i64 0]) ∧ (∀ j, j < size → w'.cell? ⟨g, j, Option.none⟩ = some (.int .u8 (v : Int))) ∧ BPlays w size cap fail k gl p bm w' S.did li lr (i + 1) ∧ Touch (fp S p bm) wr w'
theorem readOk (h : BPlays w size cap fail k gl p bm wr S li lr i) (hi : i ≤ 60) (hF : S.fails = false) {j v : Nat} (hj : li[j]? = some ⟨true, v⟩) : Calls Try.prog 15 #[.pointer (some ⟨p, 0, Option.none⟩), .int .i64 j] wr (Red w size cap fail k gl p bm wr S li lr i v) := by
  obtain ⟨y, hy, e, hb⟩ := h.inv.there hj
  refine (read_ok h.st (h.small hi) hF (j : Int) hy e).mono ?_
  rintro e w' ⟨g, c, rfl, ho, s, t⟩
  rw [h.e1] at ho
  obtain ⟨d1, d2⟩ := h.did s t (fun q hq => .inl hq)
  refine ⟨g, c, by rw [h.e1], fun j hj => ?_, d1, d2⟩
  have := ho.cells (g := g) rfl j (.int .u8 (v : Int)) (by rw [hb]; simp [vals, hj])
  rwa [Addr.add_lit, Nat.zero_add] at this
theorem writeA (h : BPlays w size cap fail k gl p bm wr S li lr i) (id : Int) (hid : id ∉ S.m.map (·.1)) (a : Option Addr) (n c : Nat) : Calls Try.prog 14 #[.pointer (some ⟨p, 0, Option.none⟩), .int .i64 id, .slice a n c] wr (BTo w size cap fail k gl p bm wr S S li lr (i + 1) (.int .i64 2)) := by
  refine (write_absent h.st id hid a n c).mono ?_
  rintro e w' ⟨rfl, rfl⟩
  exact ⟨rfl, h.same, Touch.refl _ _⟩
theorem writeW (h : BPlays w size cap fail k gl p bm wr S li lr i) {j v : Nat} (hj : li[j]? = some ⟨true, v⟩) (a : Option Addr) (n c : Nat) (hn : n ≠ size) : Calls Try.prog 14 #[.pointer (some ⟨p, 0, Option.none⟩), .int .i64 j, .slice a n c] wr (BTo w size cap fail k gl p bm wr S S li lr (i + 1) (.int .i64 1)) := by
  obtain ⟨y, hy, e, _⟩ := h.inv.there hj
  refine (write_wrong h.st (j : Int) hy e a n c (by rw [h.e1]; exact hn)).mono ?_
  rintro e w' ⟨rfl, rfl⟩
  exact ⟨rfl, h.same, Touch.refl _ _⟩
theorem writeF (h : BPlays w size cap fail k gl p bm wr S li lr i) (hi : i ≤ 60) (hF : S.fails = true) {j v : Nat} (hj : li[j]? = some ⟨true, v⟩) (a : Option Addr) (c : Nat) : Calls Try.prog 14 #[.pointer (some ⟨p, 0, Option.none⟩), .int .i64 j, .slice a size c] wr (BTo w size cap fail k gl p bm wr S S.did li lr (i + 1) (.int .i64 9)) := by
  obtain ⟨y, hy, e, _⟩ := h.inv.there hj
  refine (write_fault h.st (h.small hi) hF (j : Int) hy e a size c h.e1.symm).mono ?_
  rintro e w' ⟨rfl, s, t⟩
  exact ⟨rfl, h.did s t (fun q hq => .inl hq)⟩
theorem writeOk (h : BPlays w size cap fail k gl p bm wr S li lr i) (hi : i ≤ 60) (hF : S.fails = false) {j v : Nat} (hj : li[j]? = some ⟨true, v⟩) (g c v' : Nat) (hx : ∀ q, q < size → wr.cell? ⟨g, q, Option.none⟩ = some (.int .u8 (v' : Int))) (hg : ¬ fp S p bm g) :
    Calls Try.prog 14 #[.pointer (some ⟨p, 0, Option.none⟩), .int .i64 j, .slice (some ⟨g, 0, Option.none⟩) size c] wr (BTo w size cap fail k gl p bm wr S (S.did.wrote (j : Int) (List.replicate size (v' : Int))) (li.set j ⟨true, v'⟩) lr (i + 1) (.int .i64 0)) := by
  obtain ⟨y, hy, e, _⟩ := h.inv.there hj
  refine (write_ok h.st (h.small hi) hF (j : Int) hy e ⟨g, 0, Option.none⟩ size c h.e1.symm (List.replicate size (v' : Int)) (by simp) (fun q u hu => ?_) hg).mono ?_
  · rw [Addr.add_lit, Nat.zero_add]
    simp only [vals, List.map_replicate, List.getElem?_replicate] at hu
    split at hu
    · rename_i hq
      rw [hx q hq]; exact hu
    · cases hu
  · rintro e w' ⟨rfl, s, t⟩
    have hb := wrote_blocks S.did (j : Int) (List.replicate size (v' : Int))
    have sub : ∀ q, fp (S.did.wrote (j : Int) (List.replicate size (v' : Int))) p bm q → fp S p bm q := by
      rintro q (e | e | e)
      · exact .inl e
      · exact .inr (.inl e)
      · rw [hb] at e; exact .inr (.inr e)
    exact ⟨rfl, ⟨s, h.e1, h.e2, h.e3, by rw [List.length_set]; exact h.kl, h.kc, t.heap h.off h.row, fun e => h.off (sub _ e), h.hg, fun q hq => h.hf q (sub q hq), h.bel.trans (t.toBelow h.bel.size h.hf), h.inv.wrote hj⟩, t⟩
end BPlays
end Go.Proofs.Ytaeicondmiikaaa
