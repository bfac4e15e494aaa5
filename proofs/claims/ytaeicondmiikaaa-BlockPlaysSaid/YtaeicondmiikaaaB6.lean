/- The document's example of a block store: the law's own function 'awake' answers true, in whatever memory. -/
import Derived.Test.YtaeicondmiikaaaB5
namespace Go.Proofs.Ytaeicondmiikaaa
open Go.RowKit Go.Maps
set_option linter.unusedSimpArgs false
set_option linter.unusedVariables false

variable {w : World} {p bm : Nat} {S : St}

theorem free_is {S : St} {id k : Nat} (h : Free S id) (hk : (k : Int) ∉ S.m.map (·.1)) (hlt : ∀ j : Nat, j < k → (j : Int) ∈ S.m.map (·.1)) : id = k := by
  rcases Nat.lt_trichotomy id k with h' | h' | h'
  · exact absurd (hlt id h') h.1
  · exact h'
  · exact absurd (h.2 k h') hk

theorem Touch.toBelow {F : Nat → Prop} {w w' : World} {B : Nat} (h : Touch F w w') (hB : B ≤ w.heap.size) (hF : ∀ k, F k → B ≤ k) : Below B w w' :=
  h.below hB (fun k hk hf => by have := hF k hf; omega)

def awkBlock (S : St) : Prop := S.fails = false

set_option maxHeartbeats 1000000 in
theorem awake_any (w : World) : Calls Try.prog 8 #[] w fun e w' => e = .returned (.bool true) ∧ Below w.heap.size w w' := by
  go_enter Try.func8, Try.ntmps8
  go_wp2_with fail
  refine (new_ok 16 5 w (by omega) (by omega) (by omega)).mono ?_
  rintro e w1 ⟨p, bm, rfl, s1, hp, hbm, t1⟩
  have b1 : Below w.heap.size w w1 := t1.toBelow (Nat.le_refl _) (fun _ h => h.elim)
  clear t1
  go_wp2_with fail
  refine (alloc_ok s1 (by simp) rfl (by simp)).mono ?_
  rintro e w2 ⟨id, blk, hfr, rfl, s2, hblk, t2⟩
  obtain rfl : id = 0 := free_is hfr (by simp) (by omega)
  have b2 : Below w.heap.size w w2 := b1.trans (t2.toBelow b1.size (fun k h => by rcases h with rfl | rfl <;> assumption))
  change StoreAt w2 p bm ⟨16, 5, 1, 1, -1, false, [(0, blk, zeros 16)]⟩ at s2
  clear t2 b1 hfr hblk s1
  go_wp2_with fail
  refine (alloc_ok s2 (by simp) rfl (by simp)).mono ?_
  rintro e w3 ⟨id, blk2, hfr, rfl, s3, hblk2, t3⟩
  obtain rfl : id = 1 := free_is hfr (by simp) (by intro j hj; (obtain rfl : j = 0 := by omega); simp)
  have b3 : Below w.heap.size w w3 := b2.trans (t3.toBelow b2.size (fun k h => by rcases h with rfl | rfl <;> assumption))
  change StoreAt w3 p bm ⟨16, 5, 2, 2, -1, false, [(0, blk, zeros 16), (1, blk2, zeros 16)]⟩ at s3
  clear t3 b2 hfr hblk2 s2
  go_wp2_with fail
  refine (free_there s3 (by simp) 0 (y := (0, blk, zeros 16)) (by simp) rfl).mono ?_
  rintro e w4 ⟨rfl, s4, t4⟩
  have b4 : Below w.heap.size w w4 := b3.trans (t4.toBelow b3.size (fun k h => by rcases h with rfl | rfl <;> assumption))
  change StoreAt w4 p bm ⟨16, 5, 2, 3, -1, false, [(1, blk2, zeros 16)]⟩ at s4
  clear t4 b3 s3
  go_wp2_with fail
  refine (alloc_ok s4 (by simp) rfl (by simp)).mono ?_
  rintro e w5 ⟨id, blk3, hfr, rfl, s5, hblk3, t5⟩
  obtain rfl : id = 0 := free_is hfr (by simp) (by omega)
  have b5 : Below w.heap.size w w5 := b4.trans (t5.toBelow b4.size (fun k h => by rcases h with rfl | rfl <;> assumption))
  change StoreAt w5 p bm ⟨16, 5, 2, 4, -1, false, [(1, blk2, zeros 16), (0, blk3, zeros 16)]⟩ at s5
  clear t5 b4 hfr hblk3 s4
  go_wp2_with fail
  refine (used_any s5).mono ?_
  rintro e w6 ⟨rfl, rfl⟩
  go_wp2_with fail
  refine (peak_any s5).mono ?_
  rintro e w7 ⟨rfl, rfl⟩
  go_wp2_with fail
  go_ret
  exact ⟨rfl, b5⟩

/-- What the walk is told of a slice of integers that came in. -/
def IsRow (k : IntKind) (w : World) (a : Option Addr) (len cap : Nat) (zs : List Int) : Prop :=
  (a = Option.none ∧ len = 0 ∧ cap = 0 ∧ zs = []) ∨
  ∃ x, a = some x ∧ len ≤ cap ∧ cap ≤ maxLen ∧ zs.length = cap ∧ (∀ i, i < zs.length → w.cell? (x.add i) = some (.int k (zs.getD i 0))) ∧ ∀ n ∈ zs, (Lit.int k n).wf = true

/-- An element of a slice that came in, in whatever later world. -/
theorem IsRow.at {w w' : World} {a : Option Addr} {len cap : Nat} {zs : List Int} (h : IsRow .u8 w a len cap zs) (b : Below w.heap.size w w') {i : Nat} (hi : i < len) :
    ∃ g off, a = some ⟨g, off, Option.none⟩ ∧ g < w.heap.size ∧ w'.cell? ⟨g, off + i, Option.none⟩ = some (.int .u8 (zs.getD i 0)) ∧ 0 ≤ zs.getD i 0 ∧ zs.getD i 0 ≤ 255 := by
  rcases h with ⟨rfl, rfl, rfl, rfl⟩ | ⟨x, rfl, hl, hm, hz, hcell, hwz⟩
  · omega
  · obtain ⟨g, off, spot⟩ := x
    have hc := hcell i (by omega)
    have h0 := hcell 0 (by omega)
    have hspot : spot = Option.none := by
      have := World.cell?_spot h0
      simpa [Addr.add] using this
    subst hspot
    rw [Addr.add_lit] at hc
    have hlt : g < w.heap.size := World.block_lt_of_cell? w _ hc
    refine ⟨g, off, rfl, hlt, ?_, ?_⟩
    · rw [b.cell (p := ⟨g, off + i, Option.none⟩) hlt]; exact hc
    · have hmem : zs.getD i 0 ∈ zs := by
        rw [List.getD_eq_getElem?_getD, List.getElem?_eq_getElem (by omega)]
        exact List.getElem_mem _
      have := hwz _ hmem
      exact bounds_u8 this

/-- The keys of a store. -/
def St.keys (S : St) : List Int := S.m.map (·.1)
theorem keys_len (S : St) : S.keys.length = S.m.length := by simp [St.keys]
end Go.Proofs.Ytaeicondmiikaaa
