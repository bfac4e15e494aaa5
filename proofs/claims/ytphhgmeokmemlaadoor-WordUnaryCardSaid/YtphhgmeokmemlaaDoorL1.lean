/- A word's bits in a list. -/
import Derived.Test.YtphhgmeokmemlaaDoorMp
import Derived.Test.YtphhgmeokmemlaaDoorV6
import Derived.BigRegion
import Derived.BigQuiet
import Derived.Deep.QuietTactic
import Derived.Deep.LoopGhost
namespace Go.Proofs.YtphhgmeokmemlaaDoor
open Go.RowKit Go.Maps
set_option linter.unusedSimpArgs false
set_option linter.unusedVariables false

variable {w w' : World}

abbrev bvals (l : List Bool) : List Value := l.map Value.bool
theorem info4 : (Tryd.prog.info? 4).map (fun i => (i.zero, i.size, i.bytes)) = some (some (.bool false), 1, 1) := by kernel_rfl

/-- append of one truth. -/
theorem app_b {a : Option Addr} {n cap : Nat} {xs : List Value} (h : w.ownsRow 0 4 1 (.slice a n cap) n xs) (hlen : n ≤ 1000000) (x : Bool) :
    ∃ a' cap' w2, (Builtin.append_ #[40, 40] 40 #[.slice a n cap, .slice (some ⟨w.heap.size, 0, Option.none⟩) 1 1]).run Tryd.prog (w.alloc (.cells #[.bool x] 4)) = .ok (.slice a' (n + 1) cap') w2 ∧
      w2.ownsRow 0 4 1 (.slice a' (n + 1) cap') (n + 1) (xs ++ [.bool x]) ∧ Touch (fun j => (Value.slice a n cap).ownBlock = some j) w w2 ∧
      (∀ j, (Value.slice a' (n + 1) cap').ownBlock = some j → (Value.slice a n cap).ownBlock = some j ∨ w.heap.size ≤ j) := by
  obtain ⟨i, hi, hz, hs, hby⟩ := info_parts info4
  have howB : (w.alloc (.cells #[.bool x] 4)).ownsRow 0 4 1 (.slice a n cap) n xs := h.alloc _
  have hcellB : ∀ j u, [Value.bool x][j]? = some u → (w.alloc (.cells #[.bool x] 4)).cell? ((⟨w.heap.size, 0, Option.none⟩ : Addr).add j) = some u := by
    intro j u hu
    match j, hu with
    | 0, hu =>
      simp only [List.getElem?_cons_zero, Option.some.injEq] at hu; subst hu
      rw [Addr.add_lit]
      exact cell_of_row (w.alloc (.cells #[.bool x] 4)) _ _ _ _ _ (MapKept.heap_alloc w _).1
    | j + 1, hu => simp at hu
  have h63 : n + 1 ≤ maxLen := by simp only [maxLen]; omega
  have hbb : (n + 1) * 1 ≤ 140737488355328 := by omega
  obtain ⟨v', w2, hap, ho2, hg2, hv2⟩ := run_append_own (P := Tryd.prog) (w.alloc (.cells #[.bool x] 4)) 0 40 40 4 i (.bool false) 1 1 Tryd.underlying40 hi hz hs hby rfl (by decide) _ n xs howB
    ⟨w.heap.size, 0, Option.none⟩ 1 1 [.bool x] rfl hcellB (by intro u hu; simp only [List.mem_singleton] at hu; subst hu; rfl) h63 hbb (by simp)
  have hnb := append_block (P := Tryd.prog) (w.alloc (.cells #[.bool x] 4)) 0 40 40 4 i (.bool false) 1 1 Tryd.underlying40 hi hz hs hby rfl (by decide) _ n xs howB
    ⟨w.heap.size, 0, Option.none⟩ 1 1 [.bool x] rfl hcellB (by intro u hu; simp only [List.mem_singleton] at hu; subst hu; rfl) h63 hbb hap
  have hzB : (w.alloc (.cells #[.bool x] 4)).heap.size = w.heap.size + 1 := by simp
  have t : Touch (fun j => (Value.slice a n cap).ownBlock = some j) w w2 := (Touch.alloc _ w _).trans (Touch.grown hg2 (fun j hj _ => hj))
  rcases ho2.2 with ⟨hv, hn'⟩ | ⟨g, cap', cur, hv, r⟩
  · omega
  · subst hv
    exact ⟨_, _, w2, hap, ho2, t, fun j hj => (hnb j hj).imp id (fun h => by omega)⟩

/-- A slice of truths that begins its own block. -/
def Bits (w : World) (v : Value) (l : List Bool) (B : Nat) : Prop :=
  ∃ g cap cur, v = .slice (some ⟨g, 0, Option.none⟩) l.length cap ∧ B ≤ g ∧ w.heap[g]? = some (.cells cur 4 (0, 0)) ∧ cur.toList.take l.length = bvals l

theorem Bits.kept {v : Value} {l : List Bool} {B : Nat} (h : Bits w v l B) {F : Nat → Prop} (t : Touch F w w') (hF : ∀ k, B ≤ k → ¬ F k) : Bits w' v l B := by
  obtain ⟨g, cap, cur, hv, hB, hg, hc⟩ := h
  exact ⟨g, cap, cur, hv, hB, t.heap (hF g hB) hg, hc⟩

theorem bits_cell {g : Nat} {cur : Array Value} {l : List Bool} (hg : w.heap[g]? = some (.cells cur 4 (0, 0))) (hc : cur.toList.take l.length = bvals l) (i : Nat) (hi : i < l.length) :
    w.cell? ⟨g, i, Option.none⟩ = some (.bool (l.getD i false)) := by
  rw [cell_of_row _ _ _ _ _ _ hg]
  have h1 : (cur.toList.take l.length)[i]? = (bvals l)[i]? := by rw [hc]
  rw [List.getElem?_take, if_pos hi] at h1
  simp only [bvals, List.getElem?_map, List.getElem?_eq_getElem hi, Option.map_some] at h1
  rw [List.getD_eq_getElem?_getD, List.getElem?_eq_getElem hi]
  simpa using h1

def lst (n x : Nat) : List Bool := (List.range n).map fun i => x / 2 ^ i % 2 == 1
theorem lst_length (n x : Nat) : (lst n x).length = n := by simp [lst]
theorem lst_succ (n x : Nat) : lst (n + 1) x = lst n x ++ [x / 2 ^ n % 2 == 1] := by simp [lst, List.range_succ]

def ListPost (n x : Nat) (w : World) (e : Ending) (w' : World) : Prop := ∃ v, e = .returned v ∧ Bits w' v (lst n x) w.heap.size ∧ Touch (fun _ => False) w w'

set_option maxHeartbeats 1000000 in
theorem list_ok (n x : Nat) (h0 : 0 < n) (hn : n ≤ 64) (hx : x < 18446744073709551616) (w : World) : Calls Tryd.prog 18 #[.int .i64 n, .int .u64 x] w (ListPost n x w) := by
  go_enter Tryd.func18, Tryd.ntmps18
  go_wp2_with fail
  go_loopw [1, 5, 6] (fun z v j wr => ∃ (i : Nat) (a : Option Addr) (cap : Nat), z = .int .u64 ((x / 2 ^ i : Nat) : Int) ∧ v = .slice a i cap ∧ j = .int .i64 i ∧ i ≤ n ∧ wr.ownsRow 0 4 1 (.slice a i cap) i (bvals (lst i x)) ∧
      (∀ k, (Value.slice a i cap).ownBlock = some k → w.heap.size ≤ k) ∧ Touch (fun _ => False) w wr) (fun _ _ j _ => n - (intOf j).toNat)
  case atStart =>
    exact ⟨0, Option.none, 0, by simp, rfl, rfl, Nat.zero_le _, ⟨by simp [lst], Or.inl ⟨rfl, rfl⟩⟩, fun k hk => by simp [Value.ownBlock] at hk, Touch.refl _ _⟩
  case round =>
    obtain ⟨i, a, cap, rfl, rfl, rfl, hi, ho, hb, t⟩ := hrel
    by_cases hlt : i < n
    · obtain ⟨a', cap', w2, hap, ho2, t2, hb2⟩ := app_b ho (by omega) (((x / 2 ^ i : Nat) : Int) % 2 == 1)
      have hyx : x / 2 ^ i < 18446744073709551616 := Nat.lt_of_le_of_lt (Nat.div_le_self _ _) hx
      have hnext : (((x / 2 ^ i : Nat) : Int)) / 2 = ((x / 2 ^ (i + 1) : Nat) : Int) := by
        rw [Nat.pow_succ, ← Nat.div_div_eq_div_mul]; omega
      have hbit : (((x / 2 ^ i : Nat) : Int) % 2 == 1) = (x / 2 ^ i % 2 == 1) := by
        rw [Bool.eq_iff_iff]; simp only [beq_iff_eq]; omega
      have ho3 : w2.ownsRow 0 4 1 (.slice a' (i + 1) cap') (i + 1) (bvals (lst (i + 1) x)) := by
        rw [lst_succ, ← hbit]; simpa [bvals] using ho2
      have HN := Lib.hid hnext
      generalize hY : x / 2 ^ i = y at *
      have HAP := Lib.hid hap
      have tt : Touch (fun _ => False) w w2 := t.trans' t2 (fun _ _ h => h) (fun k hk hf => by have := hb k hf; omega)
      have hb3 : ∀ k, (Value.slice a' (i + 1) cap').ownBlock = some k → w.heap.size ≤ k := fun k hk => (hb2 k hk).elim (hb k) (fun h => Nat.le_trans t.size h)
      clear hap ho ho2 hb hb2 t t2 hnext hbit hY
      go_wp2_with (at_builtin; refine wpList_append_run rfl _ _ 40 40 rfl rfl rfl HAP.out ?_)
      refine ⟨⟨i + 1, a', cap', by rw [HN.out], rfl, by go_num, by omega, ho3, hb3, tt⟩, by simp [intOf]; omega⟩
    · obtain rfl : i = n := by omega
      have FIN : ListPost i x w (.returned (.slice a i cap)) wr := by
        refine ⟨_, rfl, ?_, t⟩
        rcases ho.2 with ⟨hv, h⟩ | ⟨g, c, cur, hv, h1, h2, h3, h4, h5, h6⟩
        · omega
        · refine ⟨g, c, cur, by rw [lst_length]; exact hv, ?_, h2, by rw [lst_length]; simpa using h6⟩
          rw [hv] at hb
          exact hb g rfl
      have FI := Lib.hid FIN
      clear FIN ho hb t
      go_wp2_with fail
      go_ret
      exact FI.out

end Go.Proofs.YtphhgmeokmemlaaDoor
