/- Rows of structs of the law's own: appended to, read, written. -/
import Derived.Test.YtmjnoboeffajbaaAh
import Derived.Laws.OwnMore
namespace Go.Proofs.Ytmjnoboeffajbaa
open Go.RowKit Go.Maps
set_option linter.unusedSimpArgs false
set_option linter.unusedVariables false

/-- How an element lies in memory. -/
structure El (E : Type) where
  ce : E → List Value
  K : Nat
  t : TypeId
  s : TypeId
  bytes : Nat
  z : Value
  len : ∀ x, (ce x).length = K
  one : ∀ x, ∀ u ∈ ce x, u.oneCell' = true
  pos : 0 < K
  us : Try.prog.underlying s = some (.slice t)
  info : (Try.prog.info? t).map (fun i => (i.zero, i.size, i.bytes)) = some (some z, K, bytes)
  zs : z.cells.size = K
  by8 : bytes ≤ 64
variable {E : Type}
def El.fl (e : El E) (m : List E) : List Value := m.flatMap e.ce
namespace El
variable (e : El E)
theorem fl_nil : e.fl [] = [] := rfl
theorem fl_append (l m : List E) : e.fl (l ++ m) = e.fl l ++ e.fl m := by simp [fl]
theorem fl_cons (x : E) (m : List E) : e.fl (x :: m) = e.ce x ++ e.fl m := by simp [fl]
theorem fl_length (m : List E) : (e.fl m).length = m.length * e.K := by
  induction m with
  | nil => simp [fl]
  | cons x r ih => rw [fl_cons, List.length_append, e.len, ih, List.length_cons, Nat.add_mul, Nat.one_mul, Nat.add_comm]
theorem fl_get {m : List E} {i : Nat} {x : E} (hi : m[i]? = some x) {f : Nat} (hf : f < e.K) : (e.fl m)[i * e.K + f]? = (e.ce x)[f]? := by
  induction m generalizing i with
  | nil => simp at hi
  | cons y r ih =>
    rw [fl_cons]
    cases i with
    | zero =>
      simp only [List.getElem?_cons_zero, Option.some.injEq] at hi
      subst hi
      rw [Nat.zero_mul, Nat.zero_add, List.getElem?_append_left (by rw [e.len]; exact hf)]
    | succ k =>
      simp only [List.getElem?_cons_succ] at hi
      rw [List.getElem?_append_right (by rw [e.len, Nat.add_mul]; omega), e.len, show (k + 1) * e.K + f - e.K = k * e.K + f by rw [Nat.add_mul]; omega]
      exact ih hi
theorem fl_set {m : List E} {i : Nat} {x y : E} (hi : m[i]? = some x) {f : Nat} (hf : f < e.K) {u : Value} (hy : e.ce y = (e.ce x).set f u) : (e.fl m).set (i * e.K + f) u = e.fl (m.set i y) := by
  induction m generalizing i with
  | nil => simp at hi
  | cons v r ih =>
    cases i with
    | zero =>
      simp only [List.getElem?_cons_zero, Option.some.injEq] at hi
      subst hi
      rw [List.set_cons_zero, fl_cons, fl_cons, hy, Nat.zero_mul, Nat.zero_add, List.set_append_left _ _ (by rw [e.len]; exact hf)]
    | succ k =>
      simp only [List.getElem?_cons_succ] at hi
      rw [List.set_cons_succ, fl_cons, fl_cons, List.set_append_right _ _ (by rw [e.len, Nat.add_mul]; omega), e.len, show (k + 1) * e.K + f - e.K = k * e.K + f by rw [Nat.add_mul]; omega, ih hi]
theorem fl_take (m : List E) (k : Nat) : (e.fl m).take (k * e.K) = e.fl (m.take k) := by
  induction m generalizing k with
  | nil => simp [fl]
  | cons x r ih =>
    cases k with
    | zero => simp [fl]
    | succ k =>
      rw [List.take_succ_cons, fl_cons, fl_cons, Nat.add_mul, Nat.one_mul, Nat.add_comm, List.take_append, e.len, List.take_of_length_le (by rw [e.len]; omega), show e.K + k * e.K - e.K = k * e.K by omega, ih]
theorem fl_drop (m : List E) (k : Nat) : (e.fl m).drop (k * e.K) = e.fl (m.drop k) := by
  induction m generalizing k with
  | nil => simp [fl]
  | cons x r ih =>
    cases k with
    | zero => simp
    | succ k =>
      rw [List.drop_succ_cons, fl_cons, Nat.add_mul, Nat.one_mul, Nat.add_comm, List.drop_append, e.len, List.drop_eq_nil_of_le (by rw [e.len]; omega), show e.K + k * e.K - e.K = k * e.K by omega, ih, List.nil_append]
theorem fl_one (m : List E) : ∀ u ∈ e.fl m, u.oneCell' = true := by
  intro u hu
  simp only [fl, List.mem_flatMap] at hu
  obtain ⟨x, _, hx⟩ := hu
  exact e.one x u hx
end El

/-! ### elements being built -/
structure EBld (e : El E) (w wr : World) (a : Option Addr) (i cap : Nat) (l : List E) : Prop where
  own : wr.ownsRow 0 e.t e.K (.slice a i cap) i (e.fl l)
  off : ∀ k, (Value.slice a i cap).ownBlock = some k → w.heap.size ≤ k
  t : Touch (fun _ => False) w wr
theorem EBld.lit {e : El E} {w w0 : World} (t : Touch (fun _ => False) w w0) : EBld e w (w0.alloc (.cells #[] e.t)) (some ⟨w0.heap.size, 0, Option.none⟩) 0 0 [] :=
  ⟨by
    have h : (w0.alloc (.cells #[] e.t)).ownsRow w0.heap.size e.t e.K (.slice (some ⟨w0.heap.size, 0, Option.none⟩) 0 0) 0 [] := World.ownsRow_made w0 #[] 0 (Nat.le_refl _) (by simp [maxLen]) (by simp)
    exact ⟨h.1, h.2.imp id (fun ⟨g, cap, cur, hv, _, r⟩ => ⟨g, cap, cur, hv, Nat.zero_le _, r⟩)⟩, fun k hk => by
      simp only [Value.ownBlock, Option.some.injEq] at hk
      have := t.size
      omega, t.trans (Touch.alloc _ _ _)⟩
theorem EBld.drew {e : El E} {w wr : World} {a : Option Addr} {i cap : Nat} {l : List E} (h : EBld e w wr a i cap l) : EBld e w wr.drew a i cap l :=
  ⟨ownsRow_touch (Touch.drew (fun _ => False) wr) h.own (fun _ _ h => h), h.off, h.t.trans (Touch.drew _ _)⟩
theorem EBld.fresh {e : El E} {w wr w2 : World} {a : Option Addr} {i cap : Nat} {l : List E} (h : EBld e w wr a i cap l) (t : Touch (fun _ => False) wr w2) : EBld e w w2 a i cap l :=
  ⟨ownsRow_touch t h.own (fun _ _ h => h), h.off, h.t.trans t⟩

/-- The elements that a slice shows. -/
def ESrc (e : El E) (w : World) (v : Value) (L : List E) : Prop :=
  (v = .slice Option.none 0 0 ∧ L = []) ∨ ∃ ad c, v = .slice (some ad) L.length c ∧ ∀ j u, (e.fl L)[j]? = some u → w.cell? (ad.add j) = some u
theorem ESrc.kept {e : El E} {w w' : World} {v : Value} {L : List E} (h : ESrc e w v L) (t : Touch (fun _ => False) w w') : ESrc e w' v L := by
  rcases h with h | ⟨ad, c, hv, hc⟩
  · exact .inl h
  · exact .inr ⟨ad, c, hv, fun j u hu => t.cell (hc j u hu) (fun h => h)⟩
/-- One element in a block of its own. -/
theorem ESrc.lit {e : El E} {w0 : World} (x : E) (cs : Array Value) (hc : cs.toList = e.ce x) : ESrc e (w0.alloc (.cells cs e.t)) (.slice (some ⟨w0.heap.size, 0, Option.none⟩) 1 1) [x] := by
  refine .inr ⟨_, 1, rfl, fun j u hu => ?_⟩
  rw [Addr.add_lit, Nat.zero_add, cell_of_row _ _ _ _ _ _ (MapKept.heap_alloc w0 _).1]
  have hf : e.fl [x] = e.ce x := by simp [El.fl]
  rw [hf, ← hc] at hu
  simpa using hu

theorem eapp {e : El E} {w wr : World} {a : Option Addr} {i cap : Nat} {l L : List E} (h : EBld e w wr a i cap l) {v : Value} (hs : ESrc e wr v L) (hi : i + L.length ≤ 100000) :
    ∃ a' cap' w2, (Builtin.append_ #[e.s, e.s] e.s #[.slice a i cap, v]).run Try.prog wr = .ok (.slice a' (i + L.length) cap') w2 ∧ EBld e w w2 a' (i + L.length) cap' (l ++ L) ∧ Touch (fun k => (Value.slice a i cap).ownBlock = some k) wr w2 := by
  obtain ⟨i4, hi4, hz, hsz, hby⟩ := info_parts e.info
  rcases hs with ⟨rfl, rfl⟩ | ⟨ad, c, rfl, hcells⟩
  · have hap := run_append_owned_none (P := Try.prog) wr 0 e.s e.s e.t i4 e.K e.us hi4 (.slice a i cap) i (e.fl l) h.own
    exact ⟨a, cap, wr, by simpa using hap, by simpa using h, Touch.refl _ _⟩
  · have hone := e.fl_one L
    have hb := e.by8
    have hbb : (i + L.length) * e.bytes ≤ 140737488355328 := by
      have : (i + L.length) * e.bytes ≤ 100000 * 64 := Nat.mul_le_mul hi hb
      omega
    obtain ⟨v', w2, hap, ho2, hg2, hv2⟩ := run_append_own (P := Try.prog) wr 0 e.s e.s e.t i4 e.z e.K e.bytes e.us hi4 hz hsz hby e.zs e.pos _ i (e.fl l) h.own
      ad L.length c (e.fl L) (e.fl_length L) hcells hone (by simp only [maxLen]; omega) hbb (by simp)
    have hnb := append_block (P := Try.prog) wr 0 e.s e.s e.t i4 e.z e.K e.bytes e.us hi4 hz hsz hby e.zs e.pos _ i (e.fl l) h.own
      ad L.length c (e.fl L) (e.fl_length L) hcells hone (by simp only [maxLen]; omega) hbb hap
    have t : Touch (fun j => (Value.slice a i cap).ownBlock = some j) wr w2 := Touch.grown hg2 (fun j hj _ => hj)
    have tt : Touch (fun _ => False) w w2 := h.t.trans' t (fun _ _ h => h) (fun k hk hf => by have := h.off k hf; omega)
    have hoff : ∀ k, v'.ownBlock = some k → w.heap.size ≤ k := fun k hk => (hnb k hk).elim (h.off k) (fun h' => Nat.le_trans h.t.size h')
    have ho3 : w2.ownsRow 0 e.t e.K v' (i + L.length) (e.fl (l ++ L)) := by
      rw [El.fl_append]; exact ho2
    have hform : ∃ a' cap', v' = .slice a' (i + L.length) cap' := by
      rcases ho3.2 with ⟨hv, hn'⟩ | ⟨g3, cap3, cur3, hv, r⟩
      · exact ⟨Option.none, 0, by rw [hv, hn']⟩
      · exact ⟨_, _, hv⟩
    obtain ⟨a', cap', rfl⟩ := hform
    exact ⟨a', cap', w2, hap, ⟨ho3, hoff, tt⟩, t⟩
theorem step_append_e {e : El E} {w W : World} {ops : Array Oper} {o : Oper} {a : Act} {K : Act → World → Prop} {Q : Exit → Act → World → Prop} {Z : Prop} (hgd : o.guard = Option.none) (s x : Operand)
    (ho : o.op = .call { callee := .builtin .append, args := #[s, x], argTypes := #[e.s, e.s] }) (ht : o.type = e.s) {av : Option Addr} {i cap : Nat} {l L : List E} {v : Value}
    (hs : a.eval s = .slice av i cap) (hx : a.eval x = v) (hB : EBld e w W av i cap l) (hL : ESrc e W v L) (hi : i + L.length ≤ 100000)
    (h : ∀ a' cap' w2, EBld e w w2 a' (i + L.length) cap' (l ++ L) → Touch (fun k => (Value.slice av i cap).ownBlock = some k) W w2 → K (a.put o.dst (.slice a' (i + L.length) cap')) w2) : if Region.wanted o (yielded ops a.tmps) = true then Oper.wp Try.prog o a W K Q else Z := by
  obtain ⟨a', cap', w2, hap, b, t⟩ := eapp hB hL hi
  exact step_append_run hgd s x e.s e.s ho hs hx (by rw [ht]; exact hap) (h a' cap' w2 b t)

/-! ### the law's own elements -/
structure ERow (e : El E) (B : Nat) (w : World) (F : Nat → Prop) (a : Option Addr) (cap : Nat) (m : List E) : Prop where
  own : w.ownsRow 0 e.t e.K (.slice a m.length cap) m.length (e.fl m)
  off : ∀ k, (Value.slice a m.length cap).ownBlock = some k → B ≤ k ∧ ¬ F k
namespace ERow
variable {e : El E} {B : Nat} {w w' : World} {F : Nat → Prop} {a : Option Addr} {g cap : Nat} {m : List E}
theorem nil (e : El E) (B : Nat) (w : World) (F : Nat → Prop) : ERow e B w F Option.none 0 [] :=
  ⟨by simpa [El.fl] using World.ownsRow_nil w 0 e.t e.K, fun k hk => by simp [Value.ownBlock] at hk⟩
theorem kept (h : ERow e B w F a cap m) {G : Nat → Prop} (t : Touch G w w') (hG : ∀ k, G k → F k) : ERow e B w' F a cap m :=
  ⟨ownsRow_touch t h.own (fun k hk hf => (h.off k hk).2 (hG k hf)), h.off⟩
theorem foot (h : ERow e B w F a cap m) {G : Nat → Prop} (hG : ∀ k, G k → F k ∨ w.heap.size ≤ k) : ERow e B w G a cap m :=
  ⟨h.own, fun k hk => ⟨(h.off k hk).1, fun hg => (hG k hg).elim (h.off k hk).2 (fun h' => by have := (h.own.lt k hk).2; omega)⟩⟩
theorem form (h : ERow e B w F a cap m) : (a = Option.none ∧ cap = 0 ∧ m = []) ∨ ∃ g, a = some ⟨g, 0, Option.none⟩ ∧ m.length ≤ cap ∧ ¬ F g ∧ B ≤ g ∧ g < w.heap.size := by
  rcases h.own.2 with ⟨hv, hn⟩ | ⟨g, cap', cur, hv, hbg, hg, hnc, hcm, hcs, htake⟩
  · refine .inl ?_
    simp only [Value.slice.injEq] at hv
    exact ⟨hv.1, hv.2.2, List.eq_nil_of_length_eq_zero hn⟩
  · simp only [Value.slice.injEq] at hv
    have ho := h.off g (by rw [hv.1]; rfl)
    exact .inr ⟨g, hv.1, by rw [hv.2.2]; exact hnc, ho.2, ho.1, (Array.getElem?_eq_some_iff.1 hg).1⟩
theorem cell (h : ERow e B w F (some ⟨g, 0, Option.none⟩) cap m) {i : Nat} {x : E} (hi : m[i]? = some x) (f : Nat) (hf : f < e.K) : w.cell? ⟨g, i * e.K + f, Option.none⟩ = (e.ce x)[f]? := by
  have h1 := e.fl_get hi hf
  have hlen : f < (e.ce x).length := by rw [e.len]; exact hf
  rw [List.getElem?_eq_getElem hlen] at h1 ⊢
  have := h.own.cells (g := g) rfl (i * e.K + f) _ h1
  rwa [Addr.add_lit, Nat.zero_add] at this
theorem capOk (h : ERow e B w F (some ⟨g, 0, Option.none⟩) cap m) : m.length ≤ cap := by
  rcases h.form with ⟨h1, _⟩ | ⟨g', h1, h2, _⟩
  · cases h1
  · exact h2
theorem frozenAt (h : ERow e B w F (some ⟨g, 0, Option.none⟩) cap m) (j : Nat) : w.frozen? ⟨g, j, Option.none⟩ = false := h.own.frozenAt j
theorem src (h : ERow e B w F a cap m) : ESrc e w (.slice a m.length cap) m := by
  rcases h.form with ⟨rfl, rfl, rfl⟩ | ⟨g, rfl, _⟩
  · exact .inl ⟨rfl, rfl⟩
  · exact .inr ⟨_, cap, rfl, fun j u hu => h.own.cells (g := g) rfl j u hu⟩
theorem part (h : ERow e B w F (some ⟨g, 0, Option.none⟩) cap m) (k : Nat) (hk : k ≤ m.length) (c : Nat) : ESrc e w (.slice (some ⟨g, 0, Option.none⟩) k c) (m.take k) := by
  refine .inr ⟨_, c, by rw [List.length_take, Nat.min_eq_left hk], fun j u hu => ?_⟩
  rw [← e.fl_take] at hu
  rw [List.getElem?_take] at hu
  split at hu
  · exact h.own.cells (g := g) rfl j u hu
  · cases hu
theorem rest (h : ERow e B w F (some ⟨g, 0, Option.none⟩) cap m) (k n : Nat) (hk : k ≤ m.length) (hn : n = m.length - k) (c o : Nat) (ho : o = k * e.K ∨ n = 0) : ESrc e w (.slice (some ⟨g, o, Option.none⟩) n c) (m.drop k) := by
  refine .inr ⟨_, c, by rw [List.length_drop, hn], fun j u hu => ?_⟩
  rcases ho with rfl | ho
  · rw [← e.fl_drop, List.getElem?_drop] at hu
    have := h.own.cells (g := g) rfl (k * e.K + j) u hu
    rw [Addr.add_lit, Nat.zero_add] at this
    rw [Addr.add_lit]; exact this
  · have : m.drop k = [] := List.eq_nil_of_length_eq_zero (by rw [List.length_drop]; omega)
    rw [this] at hu
    simp [El.fl] at hu
theorem stored (h : ERow e B w F (some ⟨g, 0, Option.none⟩) cap m) {i : Nat} {x y : E} (hi : m[i]? = some x) {f : Nat} (hf : f < e.K) {u : Value} (hy : e.ce y = (e.ce x).set f u) :
    ERow e B (w.setCell ⟨g, i * e.K + f, Option.none⟩ u) F (some ⟨g, 0, Option.none⟩) cap (m.set i y) := by
  have st := (h.own.stored (i * e.K + f) u).1
  rw [e.fl_set hi hf hy] at st
  refine ⟨by rw [List.length_set]; exact st, fun k hk => h.off k (by simpa [Value.ownBlock] using hk)⟩
end ERow
/-- What was built is the law's own. -/
theorem EBld.row {e : El E} {w w2 : World} {a' : Option Addr} {i cap' : Nat} {l : List E} (h : EBld e w w2 a' i cap' l) (hi : i = l.length) {B : Nat} {F : Nat → Prop} (hB : B ≤ w.heap.size) (hf : ∀ k, F k → k < w.heap.size) : ERow e B w2 F a' cap' l := by
  subst hi
  exact ⟨h.own, fun k hk => by
    have := h.off k hk
    exact ⟨by omega, fun hk' => by have := hf k hk'; omega⟩⟩
/-- The law's own elements, with one more. -/
theorem ERow.app {e : El E} {B : Nat} {w : World} {F : Nat → Prop} {a : Option Addr} {cap : Nat} {m : List E} (h : ERow e B w F a cap m) (hB : B ≤ w.heap.size) (hF : ∀ k, F k → k < w.heap.size) (hl : m.length ≤ 10000) (x : E) (cs : Array Value) (hc : cs.toList = e.ce x) :
    ∃ a' cap' w2, (Builtin.append_ #[e.s, e.s] e.s #[.slice a m.length cap, .slice (some ⟨w.heap.size, 0, Option.none⟩) 1 1]).run Try.prog (w.alloc (.cells cs e.t)) = .ok (.slice a' (m.length + 1) cap') w2 ∧
      ERow e B w2 F a' cap' (m ++ [x]) ∧ Touch (fun k => B ≤ k ∧ ¬ F k) w w2 := by
  obtain ⟨i4, hi4, hz, hsz, hby⟩ := info_parts e.info
  have tA : Touch (fun _ => False) w (w.alloc (.cells cs e.t)) := Touch.alloc _ _ _
  have hb : EBld e (w.alloc (.cells cs e.t)) (w.alloc (.cells cs e.t)) Option.none 0 0 [] := ⟨by simpa [El.fl] using World.ownsRow_nil _ 0 e.t e.K, fun k hk => by simp [Value.ownBlock] at hk, Touch.refl _ _⟩
  have hown := ownsRow_touch tA h.own (fun _ _ h => h)
  have hs : ESrc e (w.alloc (.cells cs e.t)) (.slice (some ⟨w.heap.size, 0, Option.none⟩) 1 1) [x] := ESrc.lit x cs hc
  rcases hs with ⟨h1, _⟩ | ⟨ad, c, h1, hcells⟩
  · cases h1
  simp only [List.length_singleton, Value.slice.injEq, Option.some.injEq, true_and] at h1
  obtain ⟨rfl, rfl⟩ := h1
  have hone := e.fl_one [x]
  have hby8 := e.by8
  have hbb : (m.length + 1) * e.bytes ≤ 140737488355328 := by
    have : (m.length + 1) * e.bytes ≤ 10001 * 64 := Nat.mul_le_mul (by omega) hby8
    omega
  obtain ⟨v', w2, hap, ho2, hg2, hv2⟩ := run_append_own (P := Try.prog) _ 0 e.s e.s e.t i4 e.z e.K e.bytes e.us hi4 hz hsz hby e.zs e.pos _ m.length (e.fl m) hown
    _ 1 1 (e.fl [x]) (e.fl_length [x]) hcells hone (by simp only [maxLen]; omega) hbb (by simp)
  have hnb := append_block (P := Try.prog) _ 0 e.s e.s e.t i4 e.z e.K e.bytes e.us hi4 hz hsz hby e.zs e.pos _ m.length (e.fl m) hown
    _ 1 1 (e.fl [x]) (e.fl_length [x]) hcells hone (by simp only [maxLen]; omega) hbb hap
  have t : Touch (fun j => (Value.slice a m.length cap).ownBlock = some j) (w.alloc (.cells cs e.t)) w2 := Touch.grown hg2 (fun j hj _ => hj)
  rw [← El.fl_append] at ho2
  have tt : Touch (fun k => B ≤ k ∧ ¬ F k) w w2 := tA.trans' t (fun _ _ h => h.elim) (fun k _ hk => h.off k hk)
  have el : (m ++ [x]).length = m.length + 1 := by simp
  rcases ho2.2 with ⟨hv, hn'⟩ | ⟨g, cap', cur, hv, r⟩
  · omega
  · subst hv
    refine ⟨_, _, w2, hap, ⟨by rw [el]; exact ho2, ?_⟩, tt⟩
    rw [el]
    intro k hk
    rcases hnb k hk with h1 | h1
    · exact h.off k h1
    · have hz : (w.alloc (.cells cs e.t)).heap.size = w.heap.size + 1 := by simp
      exact ⟨by omega, fun hf => by have := hF k hf; omega⟩
end Go.Proofs.Ytmjnoboeffajbaa
