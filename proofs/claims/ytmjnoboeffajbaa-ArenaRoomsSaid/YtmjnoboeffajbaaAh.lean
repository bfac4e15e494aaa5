/- A slice of numbers beside an arena; the document's example of an arena. -/
import Derived.Test.YtmjnoboeffajbaaAg
namespace Go.Proofs.Ytmjnoboeffajbaa
open Go.RowKit Go.Maps
set_option linter.unusedSimpArgs false
set_option linter.unusedVariables false

variable {w : World} {p : Nat} {A : Ar} {R : Rp}

theorem Touch.toBelow {F : Nat → Prop} {w w' : World} {B : Nat} (h : Touch F w w') (hB : B ≤ w.heap.size) (hF : ∀ k, F k → B ≤ k) : Below B w w' :=
  h.below hB (fun k hk hf => by have := hF k hf; omega)

/-- What the walk is told of a slice of integers that came in. -/
def IsRow (k : IntKind) (w : World) (a : Option Addr) (len cap : Nat) (zs : List Int) : Prop :=
  (a = Option.none ∧ len = 0 ∧ cap = 0 ∧ zs = []) ∨
  ∃ x, a = some x ∧ len ≤ cap ∧ cap ≤ maxLen ∧ zs.length = cap ∧ (∀ i, i < zs.length → w.cell? (x.add i) = some (.int k (zs.getD i 0))) ∧ ∀ n ∈ zs, (Lit.int k n).wf = true

/-- An element of a slice that came in, in whatever later world. -/
theorem IsRow.at {k : IntKind} {w w' : World} {a : Option Addr} {len cap : Nat} {zs : List Int} (h : IsRow k w a len cap zs) (b : Below w.heap.size w w') {i : Nat} (hi : i < len) :
    ∃ g off, a = some ⟨g, off, Option.none⟩ ∧ g < w.heap.size ∧ w'.cell? ⟨g, off + i, Option.none⟩ = some (.int k (zs.getD i 0)) ∧ (Lit.int k (zs.getD i 0)).wf = true := by
  rcases h with ⟨rfl, rfl, rfl, rfl⟩ | ⟨x, rfl, hl, hm, hz, hcell, hwz⟩
  · omega
  · obtain ⟨g, off, spot⟩ := x
    have hc := hcell i (by omega)
    have h0 := hcell 0 (by omega)
    have hspot : spot = Option.none := by
      have := World.cell?_spot h0
      simpa [Addr.add] using this
    subst hspot
    rw [Addr.add_lit] at hc
    have hlt : g < w.heap.size := World.block_lt_of_cell? w _ hc
    refine ⟨g, off, rfl, hlt, ?_, ?_⟩
    · rw [b.cell (p := ⟨g, off + i, Option.none⟩) hlt]; exact hc
    · have hmem : zs.getD i 0 ∈ zs := by
        rw [List.getD_eq_getElem?_getD, List.getElem?_eq_getElem (by omega)]
        exact List.getElem_mem _
      exact hwz _ hmem

/-- What an arena has lies from block B on. -/
def From (B p : Nat) (R : Rp) : Prop := ∀ k, fp R p k → B ≤ k

theorem From.step {B p : Nat} {R R' : Rp} {w w' : World} (h : From B p R) (s : Step w w' p R R') (hB : B ≤ w.heap.size) : From B p R' := by
  intro k hk
  rcases s.sub k hk with h1 | h1
  · exact h k h1
  · omega
theorem Step.below {B p : Nat} {R R' : Rp} {w w' : World} (s : Step w w' p R R') (h : From B p R) (hB : B ≤ w.heap.size) : Below B w w' := s.touch.toBelow hB h

/-- A slice of numbers of the law's own. -/
structure Row (B : Nat) (w : World) (p : Nat) (R : Rp) (a : Option Addr) (cap : Nat) (xs : List Int) : Prop where
  own : w.ownsRow 0 3 1 (.slice a xs.length cap) xs.length (ints xs)
  off : ∀ k, (Value.slice a xs.length cap).ownBlock = some k → ¬ fp R p k ∧ B ≤ k

theorem Row.step {B : Nat} {w w' : World} {p : Nat} {R R' : Rp} {a : Option Addr} {cap : Nat} {xs : List Int} (h : Row B w p R a cap xs) (s : Step w w' p R R') : Row B w' p R' a cap xs where
  own := ownsRow_touch s.touch h.own (fun k hk => (h.off k hk).1)
  off k hk := by
    refine ⟨fun hf => ?_, (h.off k hk).2⟩
    rcases s.sub k hf with h1 | h1
    · exact (h.off k hk).1 h1
    · have := (h.own.lt k hk).2; omega

theorem Row.at {B : Nat} {w : World} {p : Nat} {R : Rp} {a : Option Addr} {cap : Nat} {xs : List Int} (h : Row B w p R a cap xs) {i : Nat} (hi : i < xs.length) :
    ∃ g, a = some ⟨g, 0, Option.none⟩ ∧ w.cell? ⟨g, i, Option.none⟩ = some (.int .i64 (xs.getD i 0)) := by
  rcases h.own.2 with ⟨hv, hn⟩ | ⟨g, cap', cur, hv, hbg, hg, hnc, hcm, hcs, htake⟩
  · omega
  · simp only [Value.slice.injEq] at hv
    refine ⟨g, hv.1, ?_⟩
    have := h.own.cells (g := g) (by rw [hv.1]; rfl) i (.int .i64 (xs.getD i 0)) (by simp [ints, hi])
    rwa [Addr.add_lit, Nat.zero_add] at this

theorem app_any {B : Nat} {w : World} {a : Option Addr} {n cap : Nat} {xs : List Int} (hn : n = xs.length) (h : w.ownsRow 0 3 1 (.slice a n cap) n (ints xs)) (hlen : xs.length ≤ 1000000) (x : Int) :
    ∃ a' cap' w2, (Builtin.append_ #[28, 28] 28 #[.slice a n cap, .slice (some ⟨w.heap.size, 0, Option.none⟩) 1 1]).run Try.prog (w.alloc (.cells #[.int .i64 x] 3)) = .ok (.slice a' (n + 1) cap') w2 ∧
      w2.ownsRow 0 3 1 (.slice a' (n + 1) cap') (n + 1) (ints (xs ++ [x])) ∧ Touch (fun k => (Value.slice a n cap).ownBlock = some k) w w2 ∧
      (∀ k, (Value.slice a' (n + 1) cap').ownBlock = some k → (Value.slice a n cap).ownBlock = some k ∨ w.heap.size ≤ k) := by
  obtain ⟨i, hi, hz, hs, hby⟩ := info_parts info3
  have howB : (w.alloc (.cells #[.int .i64 x] 3)).ownsRow 0 3 1 (.slice a n cap) n (ints xs) := h.alloc _
  have hcellB : ∀ j u, [Value.int .i64 x][j]? = some u → (w.alloc (.cells #[.int .i64 x] 3)).cell? ((⟨w.heap.size, 0, Option.none⟩ : Addr).add j) = some u := by
    intro j u hu
    match j, hu with
    | 0, hu =>
      simp only [List.getElem?_cons_zero, Option.some.injEq] at hu; subst hu
      rw [Addr.add_lit]
      exact cell_of_row (w.alloc (.cells #[.int .i64 x] 3)) _ _ _ _ _ (MapKept.heap_alloc w _).1
    | j + 1, hu => simp at hu
  obtain ⟨v', w2, hap, ho2, hg2, hv2⟩ := run_append_own (P := Try.prog) (w.alloc (.cells #[.int .i64 x] 3)) 0 28 28 3 i (.int .i64 0) 1 8 Try.underlying28 hi hz hs hby rfl (by decide) _ n (ints xs) howB
    ⟨w.heap.size, 0, Option.none⟩ 1 1 [.int .i64 x] rfl hcellB (by intro u hu; simp only [List.mem_singleton] at hu; subst hu; rfl) (by simp only [maxLen]; omega) (by omega) (by simp)
  have hnb := append_block (P := Try.prog) (w.alloc (.cells #[.int .i64 x] 3)) 0 28 28 3 i (.int .i64 0) 1 8 Try.underlying28 hi hz hs hby rfl (by decide) _ n (ints xs) howB
    ⟨w.heap.size, 0, Option.none⟩ 1 1 [.int .i64 x] rfl hcellB (by intro u hu; simp only [List.mem_singleton] at hu; subst hu; rfl) (by simp only [maxLen]; omega) (by omega) hap
  have eints : ints xs ++ [.int .i64 x] = ints (xs ++ [x]) := by simp [ints]
  rw [eints] at ho2
  have hzB : (w.alloc (.cells #[.int .i64 x] 3)).heap.size = w.heap.size + 1 := by simp
  have t : Touch (fun k => (Value.slice a n cap).ownBlock = some k) w w2 := (Touch.alloc _ w _).trans (Touch.grown hg2 (fun k hk _ => hk))
  rcases ho2.2 with ⟨hv, hn'⟩ | ⟨g, cap', cur, hv, r⟩
  · omega
  · subst hv
    exact ⟨_, _, w2, hap, ho2, t, fun k hk => (hnb k hk).imp id (fun h => by omega)⟩

theorem Row.app {B : Nat} {w : World} {p : Nat} {R : Rp} {a : Option Addr} {cap : Nat} {xs : List Int} (h : Row B w p R a cap xs) (hA : ArAt w p A R) (hF : From B p R) (hB : B ≤ w.heap.size) (hlen : xs.length ≤ 1000000) (x : Int) :
    ∃ a' cap' w2, (Builtin.append_ #[28, 28] 28 #[.slice a xs.length cap, .slice (some ⟨w.heap.size, 0, Option.none⟩) 1 1]).run Try.prog (w.alloc (.cells #[.int .i64 x] 3)) = .ok (.slice a' (xs.length + 1) cap') w2 ∧
      Row B w2 p R a' cap' (xs ++ [x]) ∧ ArAt w2 p A R ∧ Below B w w2 := by
  obtain ⟨a', cap', w2, hap, ho2, t, hnb⟩ := app_any (B := B) rfl h.own hlen x
  have el : (xs ++ [x]).length = xs.length + 1 := by simp
  refine ⟨a', cap', w2, hap, ⟨by rw [el]; exact ho2, ?_⟩, hA.kept t (fun k hk hf => (h.off k hf).1 hk), t.toBelow hB (fun k hk => (h.off k hk).2)⟩
  rw [el]
  intro k hk
  rcases hnb k hk with h1 | h1
  · exact h.off k h1
  · exact ⟨fun hf => by have := hA.lt_fp hf; omega, by omega⟩

theorem Row.nil (B : Nat) (w : World) (p : Nat) (R : Rp) : Row B w p R Option.none 0 [] :=
  ⟨by simpa [ints] using World.ownsRow_nil w 0 3 1, fun k hk => by simp [Value.ownBlock] at hk⟩

/-! ### the document's example -/
theorem setAt_same {α : Type} (f : Int → α) (x : Int) (v : α) : setAt f x v x = v := by simp [setAt]
theorem setAt_ne {α : Type} (f : Int → α) (x y : Int) (v : α) (h : y ≠ x) : setAt f x v y = f y := by simp [setAt, h]

theorem cls20 : cls 20 = 32 := by decide
theorem cls5 : cls 5 = 16 := by decide
theorem cls17 : cls 17 = 32 := by decide

set_option maxHeartbeats 1000000 in
theorem awake_any (w : World) : Calls Try.prog 16 #[] w fun e w' => e = .returned (.bool true) ∧ Below w.heap.size w w' := by
  go_enter Try.func16, Try.ntmps16
  go_wp2_with fail
  refine (new_ok 100 w (by omega)).mono ?_
  rintro e w1 ⟨p, R1, rfl, s1, f1, t1⟩
  have b1 : Below w.heap.size w w1 := t1.toBelow (Nat.le_refl _) (fun _ h => h.elim)
  have F1 : From w.heap.size p R1 := f1
  clear t1 f1
  go_wp2_with fail
  refine (take_fresh s1 20 (by omega) (by omega) rfl (by rw [cls20]; decide) (by decide) (by decide)).mono ?_
  rintro e w2 ⟨R2, rfl, s2, st2⟩
  have F2 := F1.step st2 b1.size
  have b2 := b1.trans (st2.below F1 b1.size)
  clear st2 F1 b1 s1
  rw [cls20] at s2
  rw [show ((Ar.fresh 100).height : Int) = 0 from rfl]
  have d2 : ∃ A2 : Ar, A2.n = 100 ∧ A2.height = 32 ∧ A2.live = 32 ∧ A2.rooms = (fun _ => []) ∧ A2.taken 0 = some 32 ∧ ArAt w2 p A2 R2 := ⟨_, rfl, rfl, rfl, rfl, rfl, s2⟩
  clear s2
  obtain ⟨A2, n2, h2, l2, r2, k2, s2⟩ := d2
  have D2 := Lib.hid (And.intro n2 (And.intro h2 (And.intro l2 (And.intro r2 k2))))
  clear n2 h2 l2 r2 k2
  go_wp2_with fail
  refine (take_fresh s2 5 (by omega) (by omega) (by rw [D2.out.2.2.2.1]) (by rw [cls5, D2.out.1, D2.out.2.1]; omega) (by rw [D2.out.2.2.1]; omega) (by rw [D2.out.2.2.1]; omega)).mono ?_
  rintro e w3 ⟨R3, rfl, s3, st3⟩
  have F3 := F2.step st3 b2.size
  have b3 := b2.trans (st3.below F2 b2.size)
  clear st3 F2 b2 s2
  rw [cls5] at s3
  rw [D2.out.2.1]
  have d3 : ∃ A3 : Ar, A3.live = 48 ∧ A3.rooms = (fun _ => []) ∧ A3.taken 0 = some 32 ∧ ArAt w3 p A3 R3 :=
    ⟨_, by simp [Ar.took, D2.out.2.2.1], by simp [Ar.took, D2.out.2.2.2.1], by simp [Ar.took, setAt, D2.out.2.2.2.2, D2.out.2.1], s3⟩
  clear s3 D2
  obtain ⟨A3, l3, r3, k3, s3⟩ := d3
  have D3 := Lib.hid (And.intro l3 (And.intro r3 k3))
  clear l3 r3 k3
  go_wp2_with fail
  refine (give_ok s3 0 32 D3.out.2.2 (by rw [D3.out.2.1]; simp) (by rw [D3.out.1]; omega) (by rw [D3.out.1]; omega)).mono ?_
  rintro e w4 ⟨R4, rfl, s4, st4⟩
  have F4 := F3.step st4 b3.size
  have b4 := b3.trans (st4.below F3 b3.size)
  clear st4 F3 b3 s3
  have d4 : ∃ A4 : Ar, A4.live = 16 ∧ A4.rooms 32 = [] ++ [((0 : Nat) : Int)] ∧ ArAt w4 p A4 R4 :=
    ⟨_, by simp [Ar.gave, D3.out.1], by simp [Ar.gave, setAt, D3.out.2.1], s4⟩
  clear s4 D3
  obtain ⟨A4, l4, r4, s4⟩ := d4
  have D4 := Lib.hid (And.intro l4 r4)
  clear l4 r4
  go_wp2_with fail
  refine (take_again s4 17 (by omega) (by omega) 0 [] (by rw [cls17]; exact D4.out.2) (by rw [D4.out.1]; omega) (by rw [D4.out.1]; omega)).mono ?_
  rintro e w5 ⟨R5, rfl, s5, st5⟩
  have b5 := b4.trans (st5.below F4 b4.size)
  clear st5 F4 b4 s4
  have d5 : ∃ A5 : Ar, A5.live = 48 ∧ ArAt w5 p A5 R5 := ⟨_, by simp [Ar.took, D4.out.1, cls17], s5⟩
  clear s5
  obtain ⟨A5, l5, s5⟩ := d5
  go_wp2_with fail
  refine (live_any s5).mono ?_
  rintro e w6 ⟨rfl, rfl⟩
  go_wp2_with fail
  go_ret
  exact ⟨rfl, b5⟩
end Go.Proofs.Ytmjnoboeffajbaa
