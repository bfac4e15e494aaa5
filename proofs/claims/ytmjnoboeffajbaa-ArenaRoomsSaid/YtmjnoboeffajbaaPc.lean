/- An action read into a variable of the law's own; words of the law's own appended to what is being built. -/
import Derived.Test.YtmjnoboeffajbaaPa
import Derived.Test.YtmjnoboeffajbaaPb
import Derived.Laws.OwnMore
namespace Go.Proofs.Ytmjnoboeffajbaa
open Go.RowKit Go.Maps
set_option linter.unusedSimpArgs false
set_option linter.unusedVariables false

/-- What an action is, where the law has put it. -/
structure XAct (w : World) (z : Nat) (kind n k : Int) (la : Option Addr) (ll lc : Nat) : Prop where
  c0 : w.cell? ⟨z, 0, Option.none⟩ = some (.int .u8 kind)
  c1 : w.cell? ⟨z, 1, Option.none⟩ = some (.int .i64 n)
  c2 : w.cell? ⟨z, 2, Option.none⟩ = some (.int .i64 k)
  c3 : w.cell? ⟨z, 3, Option.none⟩ = some (.slice la ll lc)
theorem XAct.kept {w w' : World} {z : Nat} {kind n k : Int} {la : Option Addr} {ll lc : Nat} (h : XAct w z kind n k la ll lc) {F : Nat → Prop} (t : Touch F w w') (hF : ¬ F z) : XAct w' z kind n k la ll lc :=
  ⟨t.cell h.c0 hF, t.cell h.c1 hF, t.cell h.c2 hF, t.cell h.c3 hF⟩
theorem XAct.lt {w : World} {z : Nat} {kind n k : Int} {la : Option Addr} {ll lc : Nat} (h : XAct w z kind n k la ll lc) : z < w.heap.size := World.block_lt_of_cell? w _ h.c0

theorem SActs.spot {w : World} {x : Addr} {len : Nat} (h : SActs w (some x) len) (h0 : 0 < len) : x.spot = Option.none := by
  obtain ⟨y, kind, n, k, la, ll, lc, zs, hy, s⟩ := h 0 h0
  cases hy
  have := World.cell?_spot s.c0
  unfold Addr.add at this
  simpa using this
/-- An action that came in, and its copy in a new variable. -/
theorem sact_copy {w wr : World} {x : Addr} {i : Nat} {kind n k : Int} {la : Option Addr} {ll lc : Nat} {zs : List Int} (h : SAct w x i kind n k la ll lc zs) (hsp : x.spot = Option.none) (b : Below w.heap.size w wr) :
    ∃ g o, x = ⟨g, o, Option.none⟩ ∧ (wr.cell? ⟨g, o + i * 4, Option.none⟩ = some (.int .u8 kind) ∧ wr.cell? ⟨g, o + i * 4 + 1, Option.none⟩ = some (.int .i64 n) ∧ wr.cell? ⟨g, o + i * 4 + 2, Option.none⟩ = some (.int .i64 k) ∧ wr.cell? ⟨g, o + i * 4 + 3, Option.none⟩ = some (.slice la ll lc)) ∧
      XAct (wr.alloc (.cells #[.int .u8 kind, .int .i64 n, .int .i64 k, .slice la ll lc] 89)) wr.heap.size kind n k la ll lc := by
  obtain ⟨g, o, spot⟩ := x
  have h0 := h.c0
  have hspot : spot = Option.none := hsp
  subst hspot
  have hlt : g < w.heap.size := by
    rw [Addr.add_lit] at h0
    exact World.block_lt_of_cell? w _ h0
  have c0 := h.c0
  have c1 := h.c1
  have c2 := h.c2
  have c3 := h.c3
  rw [Addr.add_lit, ← b.cell (p := ⟨g, _, Option.none⟩) hlt] at c0 c1 c2 c3
  have hg := (MapKept.heap_alloc wr (.cells #[.int .u8 kind, .int .i64 n, .int .i64 k, .slice la ll lc] 89)).1
  refine ⟨g, o, rfl, ⟨c0, c1, c2, c3⟩, ⟨?_, ?_, ?_, ?_⟩⟩
  · exact cell_of_row _ _ 0 _ _ _ hg
  · exact cell_of_row _ _ 1 _ _ _ hg
  · exact cell_of_row _ _ 2 _ _ _ hg
  · exact cell_of_row _ _ 3 _ _ _ hg

theorem i64_range {n : Int} (h : (Lit.int .i64 n).wf = true) : -9223372036854775808 ≤ n ∧ n ≤ 9223372036854775807 := by
  have := (Lit.wf_int_iff _ _).1 h
  rw [show IntKind.i64.min = -9223372036854775808 from rfl, show IntKind.i64.max = 9223372036854775807 from rfl] at this
  omega

/-! ### words being built -/
structure UBld (w wr : World) (a : Option Addr) (i cap : Nat) (l : List Nat) : Prop where
  own : wr.ownsRow 0 47 1 (.slice a i cap) i (uvals l)
  off : ∀ k, (Value.slice a i cap).ownBlock = some k → w.heap.size ≤ k
  t : Touch (fun _ => False) w wr
theorem UBld.lit {w w0 : World} (t : Touch (fun _ => False) w w0) : UBld w (w0.alloc (.cells #[] 47)) (some ⟨w0.heap.size, 0, Option.none⟩) 0 0 [] :=
  ⟨by
    have h : (w0.alloc (.cells #[] 47)).ownsRow w0.heap.size 47 1 (.slice (some ⟨w0.heap.size, 0, Option.none⟩) 0 0) 0 [] := World.ownsRow_made w0 #[] 0 (Nat.le_refl _) (by simp [maxLen]) rfl
    exact ⟨h.1, h.2.imp id (fun ⟨g, cap, cur, hv, _, r⟩ => ⟨g, cap, cur, hv, Nat.zero_le _, r⟩)⟩, fun k hk => by
      simp only [Value.ownBlock, Option.some.injEq] at hk
      have := t.size
      omega, t.trans (Touch.alloc _ _ _)⟩
theorem UBld.drew {w wr : World} {a : Option Addr} {i cap : Nat} {l : List Nat} (h : UBld w wr a i cap l) : UBld w wr.drew a i cap l :=
  ⟨ownsRow_touch (Touch.drew (fun _ => False) wr) h.own (fun _ _ h => h), h.off, h.t.trans (Touch.drew _ _)⟩

/-- The words that a slice shows. -/
def USrc (w : World) (v : Value) (L : List Nat) : Prop :=
  (v = .slice Option.none 0 0 ∧ L = []) ∨ ∃ ad c, v = .slice (some ad) L.length c ∧ ∀ j u, (uvals L)[j]? = some u → w.cell? (ad.add j) = some u
theorem USrc.kept {w w' : World} {v : Value} {L : List Nat} (h : USrc w v L) (t : Touch (fun _ => False) w w') : USrc w' v L := by
  rcases h with h | ⟨ad, c, hv, hc⟩
  · exact .inl h
  · exact .inr ⟨ad, c, hv, fun j u hu => t.cell (hc j u hu) (fun h => h)⟩

theorem uapp {w wr : World} {a : Option Addr} {i cap : Nat} {l L : List Nat} (h : UBld w wr a i cap l) {v : Value} (hs : USrc w v L) (hi : i + L.length ≤ 100000) :
    ∃ a' cap' w2, (Builtin.append_ #[52, 52] 52 #[.slice a i cap, v]).run Try.prog wr = .ok (.slice a' (i + L.length) cap') w2 ∧ UBld w w2 a' (i + L.length) cap' (l ++ L) := by
  obtain ⟨i4, hi4, hz, hsz, hby⟩ := info_parts info47
  rcases hs.kept h.t with ⟨rfl, rfl⟩ | ⟨ad, c, rfl, hcells⟩
  · have hap := run_append_owned_none (P := Try.prog) wr 0 52 52 47 i4 1 Try.underlying52 hi4 (.slice a i cap) i (uvals l) h.own
    exact ⟨a, cap, wr, by simpa using hap, by simpa using h⟩
  · have hone : ∀ u ∈ uvals L, u.oneCell' = true := by intro u hu; simp only [uvals, List.mem_map] at hu; obtain ⟨z, _, rfl⟩ := hu; rfl
    obtain ⟨v', w2, hap, ho2, hg2, hv2⟩ := run_append_own (P := Try.prog) wr 0 52 52 47 i4 (.int .u64 0) 1 8 Try.underlying52 hi4 hz hsz hby rfl (by decide) _ i (uvals l) h.own
      ad L.length c (uvals L) (by simp [uvals]) hcells hone (by simp only [maxLen]; omega) (by omega) (by simp)
    have hnb := append_block (P := Try.prog) wr 0 52 52 47 i4 (.int .u64 0) 1 8 Try.underlying52 hi4 hz hsz hby rfl (by decide) _ i (uvals l) h.own
      ad L.length c (uvals L) (by simp [uvals]) hcells hone (by simp only [maxLen]; omega) (by omega) hap
    have t : Touch (fun j => (Value.slice a i cap).ownBlock = some j) wr w2 := Touch.grown hg2 (fun j hj _ => hj)
    have tt : Touch (fun _ => False) w w2 := h.t.trans' t (fun _ _ h => h) (fun k hk hf => by have := h.off k hf; omega)
    have hoff : ∀ k, v'.ownBlock = some k → w.heap.size ≤ k := fun k hk => (hnb k hk).elim (h.off k) (fun h' => Nat.le_trans h.t.size h')
    have ho3 : w2.ownsRow 0 47 1 v' (i + L.length) (uvals (l ++ L)) := by
      have := ho2
      simpa [uvals] using this
    have hform : ∃ a' cap', v' = .slice a' (i + L.length) cap' := by
      rcases ho3.2 with ⟨hv, hn'⟩ | ⟨g3, cap3, cur3, hv, r⟩
      · exact ⟨Option.none, 0, by rw [hv, hn']⟩
      · exact ⟨_, _, hv⟩
    obtain ⟨a', cap', rfl⟩ := hform
    exact ⟨a', cap', w2, hap, ⟨ho3, hoff, tt⟩⟩
theorem step_append_u {w W : World} {ops : Array Oper} {o : Oper} {a : Act} {K : Act → World → Prop} {Q : Exit → Act → World → Prop} {E : Prop} (hgd : o.guard = Option.none) (s x : Operand)
    (ho : o.op = .call { callee := .builtin .append, args := #[s, x], argTypes := #[52, 52] }) (ht : o.type = 52) {av : Option Addr} {i cap : Nat} {l L : List Nat} {v : Value}
    (hs : a.eval s = .slice av i cap) (hx : a.eval x = v) (hB : UBld w W av i cap l) (hL : USrc w v L) (hi : i + L.length ≤ 100000)
    (h : ∀ a' cap' w2, UBld w w2 a' (i + L.length) cap' (l ++ L) → K (a.put o.dst (.slice a' (i + L.length) cap')) w2) : if Region.wanted o (yielded ops a.tmps) = true then Oper.wp Try.prog o a W K Q else E := by
  obtain ⟨a', cap', w2, hap, b⟩ := uapp hB hL hi
  exact step_append_run hgd s x 52 52 ho hs hx (by rw [ht]; exact hap) (h a' cap' w2 b)

/-! ### the law's own words -/
structure URow (B : Nat) (w : World) (q p : Nat) (R : Rp) (a : Option Addr) (cap : Nat) (m : List Nat) : Prop where
  own : w.ownsRow 0 47 1 (.slice a m.length cap) m.length (uvals m)
  off : ∀ k, (Value.slice a m.length cap).ownBlock = some k → B ≤ k ∧ k ≠ q ∧ ¬ fp R p k
theorem URow.nil (B : Nat) (w : World) (q p : Nat) (R : Rp) : URow B w q p R Option.none 0 [] :=
  ⟨by simpa [uvals] using World.ownsRow_nil w 0 47 1, fun k hk => by simp [Value.ownBlock] at hk⟩
theorem URow.kept {B : Nat} {w w' : World} {q p : Nat} {R : Rp} {a : Option Addr} {cap : Nat} {m : List Nat} (h : URow B w q p R a cap m) {F : Nat → Prop} (t : Touch F w w') (hF : ∀ k, F k → k = q ∨ fp R p k) : URow B w' q p R a cap m :=
  ⟨ownsRow_touch t h.own (fun k hk hf => (hF k hf).elim (h.off k hk).2.1 (h.off k hk).2.2), h.off⟩
/-- What was built is the law's own. -/
theorem UBld.row {w w2 : World} {a' : Option Addr} {i cap' : Nat} {l : List Nat} (h : UBld w w2 a' i cap' l) (hi : i = l.length) {B q p : Nat} {R : Rp} (hB : B ≤ w.heap.size) (hq : q < w.heap.size) (hf : ∀ k, fp R p k → k < w.heap.size) : URow B w2 q p R a' cap' l := by
  subst hi
  exact ⟨h.own, fun k hk => by
    have := h.off k hk
    exact ⟨by omega, by omega, fun hk' => by have := hf k hk'; omega⟩⟩
theorem URow.src {B : Nat} {w : World} {q p : Nat} {R : Rp} {a : Option Addr} {cap : Nat} {m : List Nat} (h : URow B w q p R a cap m) : USrc w (.slice a m.length cap) m := by
  rcases h.own.2 with ⟨hv, hn⟩ | ⟨g, cap', cur, hv, hbg, hg, hnc, hcm, hcs, htake⟩
  · have : m = [] := by cases m with
      | nil => rfl
      | cons x r => simp at hn
    subst this
    exact .inl ⟨hv, rfl⟩
  · refine .inr ⟨⟨g, 0, Option.none⟩, cap', hv, fun j u hu => ?_⟩
    exact h.own.cells (g := g) (by rw [hv]; rfl) j u hu
/-- The row lies in a block of its own, or there are no words. -/
theorem URow.form {B : Nat} {w : World} {q p : Nat} {R : Rp} {a : Option Addr} {cap : Nat} {m : List Nat} (h : URow B w q p R a cap m) : (a = Option.none ∧ cap = 0 ∧ m = []) ∨
    ∃ g, a = some ⟨g, 0, Option.none⟩ ∧ m.length ≤ cap ∧ g ≠ q ∧ ¬ fp R p g ∧ B ≤ g ∧ g < w.heap.size ∧ (∀ i, i < m.length → w.cell? ⟨g, i, Option.none⟩ = some (.int .u64 (m.getD i 0 : Nat))) := by
  rcases h.own.2 with ⟨hv, hn⟩ | ⟨g, cap', cur, hv, hbg, hg, hnc, hcm, hcs, htake⟩
  · refine .inl ?_
    simp only [Value.slice.injEq] at hv
    exact ⟨hv.1, hv.2.2, by cases m with
      | nil => rfl
      | cons x r => simp at hn⟩
  · simp only [Value.slice.injEq] at hv
    have ho := h.off g (by rw [hv.1]; rfl)
    refine .inr ⟨g, hv.1, by rw [hv.2.2]; exact hnc, ho.2.1, ho.2.2, ho.1, (Array.getElem?_eq_some_iff.1 hg).1, fun i hi => ?_⟩
    have := h.own.cells (g := g) (by rw [hv.1]; rfl) i (.int .u64 (m.getD i 0 : Nat)) (by simp [uvals, hi])
    rwa [Addr.add_lit, Nat.zero_add] at this
theorem USrc.part {w : World} {g o : Nat} {m : List Nat} (L : List Nat) (n c : Nat) (hn : n = L.length) (h : ∀ i, i < L.length → w.cell? ⟨g, o + i, Option.none⟩ = some (.int .u64 (L.getD i 0 : Nat))) : USrc w (.slice (some ⟨g, o, Option.none⟩) n c) L := by
  subst hn
  refine .inr ⟨_, c, rfl, fun j u hu => ?_⟩
  have hj : j < L.length := by
    have := (List.getElem?_eq_some_iff.1 hu).1
    simpa [uvals] using this
  rw [Addr.add_lit, h j hj]
  simp only [uvals, List.getElem?_map, List.getElem?_eq_getElem hj, Option.map_some, Option.some.injEq] at hu
  rw [← hu, List.getD_eq_getElem?_getD, List.getElem?_eq_getElem hj]; rfl
/-- Words that came in, as a source. -/
theorem IsRow.usrc {w w' : World} {a : Option Addr} {len cap : Nat} {zs : List Int} (h : IsRow .u64 w a len cap zs) (b : Below w.heap.size w w') : USrc w' (.slice a len cap) (wrds zs len) := by
  rcases h with ⟨rfl, rfl, rfl, rfl⟩ | ⟨x, rfl, hl, hm, hz, hcell, hwz⟩
  · exact .inl ⟨rfl, rfl⟩
  · have h' : IsRow .u64 w (some x) len cap zs := .inr ⟨x, rfl, hl, hm, hz, hcell, hwz⟩
    by_cases h0 : len = 0
    · subst h0
      exact .inr ⟨x, cap, by simp [wrds], fun j u hu => by simp [uvals, wrds] at hu⟩
    · obtain ⟨g, off, hx, _⟩ := IsRow.word h' b (i := 0) (by omega)
      cases hx
      refine USrc.part (m := []) _ len cap (wrds_length _ _).symm (fun i hi => ?_)
      rw [wrds_length] at hi
      obtain ⟨g', off', hx', _, hc, _⟩ := IsRow.word h' b (i := i) hi
      cases hx'
      rw [hc, wrds_getD _ hi]
/-- Words that came in, as what a stack is pushed. -/
theorem IsRow.psrc {w w' : World} {a : Option Addr} {len cap : Nat} {zs : List Int} (h : IsRow .u64 w a len cap zs) (b : Below w.heap.size w w') {F : Nat → Prop} (hF : ∀ k, F k → w.heap.size ≤ k) : Src w' a (wrds zs len) F := by
  intro j hj
  rw [wrds_length] at hj
  obtain ⟨g, off, hx, hg, hc, hv⟩ := IsRow.word h b (i := j) hj
  have e : (wrds zs len).getD j 0 = (zs.getD j 0).toNat := wrds_getD zs hj
  exact ⟨g, off, hx, by rw [e]; exact hc, by rw [e]; exact hv, fun hf => by have := hF g hf; omega⟩
end Go.Proofs.Ytmjnoboeffajbaa
