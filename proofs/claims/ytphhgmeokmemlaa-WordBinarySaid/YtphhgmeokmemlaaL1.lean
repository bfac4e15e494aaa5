/- A word's bits in a list; the word of a list. -/
import Derived.Test.YtphhgmeokmemlaaMp
import Derived.Test.YtphhgmeokmemlaaW6
import Derived.BigRegion
import Derived.BigQuiet
import Derived.Deep.QuietTactic
import Derived.Deep.LoopGhost
namespace Go.Proofs.Ytphhgmeokmemlaa
open Go.RowKit Go.Maps
set_option linter.unusedSimpArgs false
set_option linter.unusedVariables false

variable {w w' : World}

abbrev bvals (l : List Bool) : List Value := l.map Value.bool
theorem info4 : (Try.prog.info? 4).map (fun i => (i.zero, i.size, i.bytes)) = some (some (.bool false), 1, 1) := by kernel_rfl

/-- append of one truth. -/
theorem app_b {a : Option Addr} {n cap : Nat} {xs : List Value} (h : w.ownsRow 0 4 1 (.slice a n cap) n xs) (hlen : n ≤ 1000000) (x : Bool) :
    ∃ a' cap' w2, (Builtin.append_ #[40, 40] 40 #[.slice a n cap, .slice (some ⟨w.heap.size, 0, Option.none⟩) 1 1]).run Try.prog (w.alloc (.cells #[.bool x] 4)) = .ok (.slice a' (n + 1) cap') w2 ∧
      w2.ownsRow 0 4 1 (.slice a' (n + 1) cap') (n + 1) (xs ++ [.bool x]) ∧ Touch (fun j => (Value.slice a n cap).ownBlock = some j) w w2 ∧
      (∀ j, (Value.slice a' (n + 1) cap').ownBlock = some j → (Value.slice a n cap).ownBlock = some j ∨ w.heap.size ≤ j) := by
  obtain ⟨i, hi, hz, hs, hby⟩ := info_parts info4
  have howB : (w.alloc (.cells #[.bool x] 4)).ownsRow 0 4 1 (.slice a n cap) n xs := h.alloc _
  have hcellB : ∀ j u, [Value.bool x][j]? = some u → (w.alloc (.cells #[.bool x] 4)).cell? ((⟨w.heap.size, 0, Option.none⟩ : Addr).add j) = some u := by
    intro j u hu
    match j, hu with
    | 0, hu =>
      simp only [List.getElem?_cons_zero, Option.some.injEq] at hu; subst hu
      rw [Addr.add_lit]
      exact cell_of_row (w.alloc (.cells #[.bool x] 4)) _ _ _ _ _ (MapKept.heap_alloc w _).1
    | j + 1, hu => simp at hu
  have h63 : n + 1 ≤ maxLen := by simp only [maxLen]; omega
  have hbb : (n + 1) * 1 ≤ 140737488355328 := by omega
  obtain ⟨v', w2, hap, ho2, hg2, hv2⟩ := run_append_own (P := Try.prog) (w.alloc (.cells #[.bool x] 4)) 0 40 40 4 i (.bool false) 1 1 Try.underlying40 hi hz hs hby rfl (by decide) _ n xs howB
    ⟨w.heap.size, 0, Option.none⟩ 1 1 [.bool x] rfl hcellB (by intro u hu; simp only [List.mem_singleton] at hu; subst hu; rfl) h63 hbb (by simp)
  have hnb := append_block (P := Try.prog) (w.alloc (.cells #[.bool x] 4)) 0 40 40 4 i (.bool false) 1 1 Try.underlying40 hi hz hs hby rfl (by decide) _ n xs howB
    ⟨w.heap.size, 0, Option.none⟩ 1 1 [.bool x] rfl hcellB (by intro u hu; simp only [List.mem_singleton] at hu; subst hu; rfl) h63 hbb hap
  have hzB : (w.alloc (.cells #[.bool x] 4)).heap.size = w.heap.size + 1 := by simp
  have t : Touch (fun j => (Value.slice a n cap).ownBlock = some j) w w2 := (Touch.alloc _ w _).trans (Touch.grown hg2 (fun j hj _ => hj))
  rcases ho2.2 with ⟨hv, hn'⟩ | ⟨g, cap', cur, hv, r⟩
  · omega
  · subst hv
    exact ⟨_, _, w2, hap, ho2, t, fun j hj => (hnb j hj).imp id (fun h => by omega)⟩

/-- A slice of truths that begins its own block. -/
def Bits (w : World) (v : Value) (l : List Bool) (B : Nat) : Prop :=
  ∃ g cap cur, v = .slice (some ⟨g, 0, Option.none⟩) l.length cap ∧ B ≤ g ∧ w.heap[g]? = some (.cells cur 4 (0, 0)) ∧ cur.toList.take l.length = bvals l

theorem Bits.kept {v : Value} {l : List Bool} {B : Nat} (h : Bits w v l B) {F : Nat → Prop} (t : Touch F w w') (hF : ∀ k, B ≤ k → ¬ F k) : Bits w' v l B := by
  obtain ⟨g, cap, cur, hv, hB, hg, hc⟩ := h
  exact ⟨g, cap, cur, hv, hB, t.heap (hF g hB) hg, hc⟩

theorem bits_cell {g : Nat} {cur : Array Value} {l : List Bool} (hg : w.heap[g]? = some (.cells cur 4 (0, 0))) (hc : cur.toList.take l.length = bvals l) (i : Nat) (hi : i < l.length) :
    w.cell? ⟨g, i, Option.none⟩ = some (.bool (l.getD i false)) := by
  rw [cell_of_row _ _ _ _ _ _ hg]
  have h1 : (cur.toList.take l.length)[i]? = (bvals l)[i]? := by rw [hc]
  rw [List.getElem?_take, if_pos hi] at h1
  simp only [bvals, List.getElem?_map, List.getElem?_eq_getElem hi, Option.map_some] at h1
  rw [List.getD_eq_getElem?_getD, List.getElem?_eq_getElem hi]
  simpa using h1

def lst (n x : Nat) : List Bool := (List.range n).map fun i => x / 2 ^ i % 2 == 1
theorem lst_length (n x : Nat) : (lst n x).length = n := by simp [lst]
theorem lst_succ (n x : Nat) : lst (n + 1) x = lst n x ++ [x / 2 ^ n % 2 == 1] := by simp [lst, List.range_succ]

def ListPost (n x : Nat) (w : World) (e : Ending) (w' : World) : Prop := ∃ v, e = .returned v ∧ Bits w' v (lst n x) w.heap.size ∧ Touch (fun _ => False) w w'

set_option maxHeartbeats 1000000 in
theorem list_ok (n x : Nat) (h0 : 0 < n) (hn : n ≤ 64) (hx : x < 18446744073709551616) (w : World) : Calls Try.prog 20 #[.int .i64 n, .int .u64 x] w (ListPost n x w) := by
  go_enter Try.func20, Try.ntmps20
  go_wp2_with fail
  go_loopw [1, 5, 6] (fun z v j wr => ∃ (i : Nat) (a : Option Addr) (cap : Nat), z = .int .u64 ((x / 2 ^ i : Nat) : Int) ∧ v = .slice a i cap ∧ j = .int .i64 i ∧ i ≤ n ∧ wr.ownsRow 0 4 1 (.slice a i cap) i (bvals (lst i x)) ∧
      (∀ k, (Value.slice a i cap).ownBlock = some k → w.heap.size ≤ k) ∧ Touch (fun _ => False) w wr) (fun _ _ j _ => n - (intOf j).toNat)
  case atStart =>
    exact ⟨0, Option.none, 0, by simp, rfl, rfl, Nat.zero_le _, ⟨by simp [lst], Or.inl ⟨rfl, rfl⟩⟩, fun k hk => by simp [Value.ownBlock] at hk, Touch.refl _ _⟩
  case round =>
    obtain ⟨i, a, cap, rfl, rfl, rfl, hi, ho, hb, t⟩ := hrel
    by_cases hlt : i < n
    · obtain ⟨a', cap', w2, hap, ho2, t2, hb2⟩ := app_b ho (by omega) (((x / 2 ^ i : Nat) : Int) % 2 == 1)
      have hyx : x / 2 ^ i < 18446744073709551616 := Nat.lt_of_le_of_lt (Nat.div_le_self _ _) hx
      have hnext : (((x / 2 ^ i : Nat) : Int)) / 2 = ((x / 2 ^ (i + 1) : Nat) : Int) := by
        rw [Nat.pow_succ, ← Nat.div_div_eq_div_mul]; omega
      have hbit : (((x / 2 ^ i : Nat) : Int) % 2 == 1) = (x / 2 ^ i % 2 == 1) := by
        rw [Bool.eq_iff_iff]; simp only [beq_iff_eq]; omega
      have ho3 : w2.ownsRow 0 4 1 (.slice a' (i + 1) cap') (i + 1) (bvals (lst (i + 1) x)) := by
        rw [lst_succ, ← hbit]; simpa [bvals] using ho2
      have HN := Lib.hid hnext
      generalize hY : x / 2 ^ i = y at *
      have HAP := Lib.hid hap
      have tt : Touch (fun _ => False) w w2 := t.trans' t2 (fun _ _ h => h) (fun k hk hf => by have := hb k hf; omega)
      have hb3 : ∀ k, (Value.slice a' (i + 1) cap').ownBlock = some k → w.heap.size ≤ k := fun k hk => (hb2 k hk).elim (hb k) (fun h => Nat.le_trans t.size h)
      clear hap ho ho2 hb hb2 t t2 hnext hbit hY
      go_wp2_with (at_builtin; refine wpList_append_run rfl _ _ 40 40 rfl rfl rfl HAP.out ?_)
      refine ⟨⟨i + 1, a', cap', by rw [HN.out], rfl, by go_num, by omega, ho3, hb3, tt⟩, by simp [intOf]; omega⟩
    · obtain rfl : i = n := by omega
      have FIN : ListPost i x w (.returned (.slice a i cap)) wr := by
        refine ⟨_, rfl, ?_, t⟩
        rcases ho.2 with ⟨hv, h⟩ | ⟨g, c, cur, hv, h1, h2, h3, h4, h5, h6⟩
        · omega
        · refine ⟨g, c, cur, by rw [lst_length]; exact hv, ?_, h2, by rw [lst_length]; simpa using h6⟩
          rw [hv] at hb
          exact hb g rfl
      have FI := Lib.hid FIN
      clear FIN ho hb t
      go_wp2_with fail
      go_ret
      exact FI.out

/-! ### the word of a list -/
def wd : List Bool → Nat
  | [] => 0
  | b :: r => 2 * wd r + (if b then 1 else 0)
theorem wd_lt : ∀ l : List Bool, wd l < 2 ^ l.length
  | [] => by simp [wd]
  | b :: r => by
    have := wd_lt r
    simp only [wd, List.length_cons, Nat.pow_succ]
    split <;> omega
theorem lst_cons (n x : Nat) : lst (n + 1) x = (x % 2 == 1) :: lst n (x / 2) := by
  simp only [lst, List.range_succ_eq_map, List.map_cons, List.map_map, Nat.pow_zero, Nat.div_one]
  congr 1
  apply List.map_congr_left
  intro i _
  simp only [Function.comp, Nat.succ_eq_add_one, Nat.pow_succ]
  rw [Nat.mul_comm, ← Nat.div_div_eq_div_mul]
theorem wd_lst : ∀ (n x : Nat), wd (lst n x) = x % 2 ^ n
  | 0, x => by simp [lst, wd]; omega
  | n + 1, x => by
    rw [lst_cons, wd, wd_lst n (x / 2), Nat.pow_succ, Nat.mul_comm (2 ^ n) 2, Nat.mod_mul]
    by_cases h : x % 2 = 1
    · simp [h]; omega
    · have : x % 2 = 0 := by omega
      simp [this]
theorem drop_at (l : List Bool) (i : Nat) (h : i < l.length) : l.drop i = l.getD i false :: l.drop (i + 1) := by
  rw [List.getD_eq_getElem?_getD, List.getElem?_eq_getElem h]
  exact List.drop_eq_getElem_cons h

set_option maxHeartbeats 1000000 in
theorem word_ok (l : List Bool) (hl : l.length ≤ 64) {v : Value} {B : Nat} (hv : Bits w v l B) : Calls Try.prog 21 #[v] w (Ret w (.int .u64 (wd l))) := by
  obtain ⟨g, cap, cur, rfl, hB, hg, hc⟩ := hv
  have CELL := Lib.hid (bits_cell hg hc)
  generalize hn : l.length = n at *
  have HN := Lib.hid hn
  clear hg hc hB
  have hn' := hn
  clear hn
  go_enter Try.func21, Try.ntmps21
  go_wp2_with fail
  go_loopw [3, 4] (fun a j wr => ∃ k : Nat, a = .int .u64 ((wd (l.drop k) : Nat) : Int) ∧ j = .int .i64 ((k : Int) - 1) ∧ k ≤ n ∧ w = wr) (fun _ j _ => (intOf j + 1).toNat)
  case atStart => exact ⟨n, by rw [← hn', List.drop_length]; rfl, rfl, Nat.le_refl _, rfl⟩
  case round =>
    obtain ⟨k, rfl, rfl, hk, rfl⟩ := hrel
    by_cases h0 : 0 < k
    · obtain ⟨k, rfl⟩ : ∃ j, k = j + 1 := ⟨k - 1, by omega⟩
      have hcell := CELL.out k (by omega)
      have hd := drop_at l k (by omega)
      have hlt := wd_lt (l.drop (k + 1))
      rw [List.length_drop, hn'] at hlt
      have hp : (2 : Nat) ^ (n - (k + 1)) ≤ 2 ^ 63 := Nat.pow_le_pow_right (by decide) (by omega)
      have hv : wd (l.drop k) = 2 * wd (l.drop (k + 1)) + (if l.getD k false then 1 else 0) := by rw [hd, wd]
      have HV := Lib.hid hv
      generalize wd (l.drop (k + 1)) = y at *
      have c1 : IntKind.u64.wrap (2 * (y : Int)) = 2 * (y : Int) := IntWalk.u64_in _ (by omega)
      have c2 : IntKind.u64.wrap (2 * (y : Int) + 1) = 2 * (y : Int) + 1 := IntWalk.u64_in _ (by omega)
      have c3 : ((k + 1 : Nat) : Int) - 1 = (k : Int) := by omega
      rw [c3]
      clear hd hv hn' c3
      cases hb : l.getD k false with
      | true =>
        rw [hb] at hcell HV
        go_wp2_with fail
        refine ⟨⟨k, by rw [HV.out]; simp, by simp, by omega, trivial⟩, by simp [intOf]⟩
      | false =>
        rw [hb] at hcell HV
        go_wp2_with fail
        refine ⟨⟨k, by rw [HV.out]; simp, by simp, by omega, trivial⟩, by simp [intOf]⟩
    · obtain rfl : k = 0 := by omega
      rw [List.drop_zero]
      go_wp2_with fail
      go_ret
      exact ⟨rfl, rfl⟩
end Go.Proofs.Ytphhgmeokmemlaa
