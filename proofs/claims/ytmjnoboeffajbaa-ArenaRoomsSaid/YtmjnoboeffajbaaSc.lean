/- A new stack; what taking words of a stack does. -/
import Derived.Test.YtmjnoboeffajbaaSb
namespace Go.Proofs.Ytmjnoboeffajbaa
open Go.RowKit Go.Maps
set_option linter.unusedSimpArgs false
set_option linter.unusedVariables false

variable {w w' : World} {q p : Nat} {S : Sk} {A : Ar} {R : Rp}

theorem info47 : (Try.prog.info? 47).map (fun i => (i.zero, i.size, i.bytes)) = some (some (.int .u64 0), 1, 8) := by kernel_rfl

/-- append of one number, whatever its kind. -/
theorem app_k (t e : TypeId) (k : IntKind) (bytes : Nat) (ht : Try.prog.underlying t = some (.slice e)) (hinf : (Try.prog.info? e).map (fun i => (i.zero, i.size, i.bytes)) = some (some (.int k 0), 1, bytes)) (hby8 : bytes ≤ 8)
    {w : World} {a : Option Addr} {n cap : Nat} {xs : List Value} (h : w.ownsRow 0 e 1 (.slice a n cap) n xs) (hlen : n ≤ 1000000) (x : Int) :
    ∃ a' cap' w2, (Builtin.append_ #[t, t] t #[.slice a n cap, .slice (some ⟨w.heap.size, 0, Option.none⟩) 1 1]).run Try.prog (w.alloc (.cells #[.int k x] e)) = .ok (.slice a' (n + 1) cap') w2 ∧
      w2.ownsRow 0 e 1 (.slice a' (n + 1) cap') (n + 1) (xs ++ [.int k x]) ∧ Touch (fun j => (Value.slice a n cap).ownBlock = some j) w w2 ∧
      (∀ j, (Value.slice a' (n + 1) cap').ownBlock = some j → (Value.slice a n cap).ownBlock = some j ∨ w.heap.size ≤ j) := by
  obtain ⟨i, hi, hz, hs, hby⟩ := info_parts hinf
  have howB : (w.alloc (.cells #[.int k x] e)).ownsRow 0 e 1 (.slice a n cap) n xs := h.alloc _
  have hcellB : ∀ j u, [Value.int k x][j]? = some u → (w.alloc (.cells #[.int k x] e)).cell? ((⟨w.heap.size, 0, Option.none⟩ : Addr).add j) = some u := by
    intro j u hu
    match j, hu with
    | 0, hu =>
      simp only [List.getElem?_cons_zero, Option.some.injEq] at hu; subst hu
      rw [Addr.add_lit]
      exact cell_of_row (w.alloc (.cells #[.int k x] e)) _ _ _ _ _ (MapKept.heap_alloc w _).1
    | j + 1, hu => simp at hu
  have h63 : n + 1 ≤ maxLen := by simp only [maxLen]; omega
  have hbb : (n + 1) * bytes ≤ 140737488355328 := by
    have : (n + 1) * bytes ≤ (n + 1) * 8 := Nat.mul_le_mul_left _ hby8
    omega
  obtain ⟨v', w2, hap, ho2, hg2, hv2⟩ := run_append_own (P := Try.prog) (w.alloc (.cells #[.int k x] e)) 0 t t e i (.int k 0) 1 bytes ht hi hz hs hby rfl (by decide) _ n xs howB
    ⟨w.heap.size, 0, Option.none⟩ 1 1 [.int k x] rfl hcellB (by intro u hu; simp only [List.mem_singleton] at hu; subst hu; rfl) h63 hbb (by simp)
  have hnb := append_block (P := Try.prog) (w.alloc (.cells #[.int k x] e)) 0 t t e i (.int k 0) 1 bytes ht hi hz hs hby rfl (by decide) _ n xs howB
    ⟨w.heap.size, 0, Option.none⟩ 1 1 [.int k x] rfl hcellB (by intro u hu; simp only [List.mem_singleton] at hu; subst hu; rfl) h63 hbb hap
  have hzB : (w.alloc (.cells #[.int k x] e)).heap.size = w.heap.size + 1 := by simp
  have t : Touch (fun j => (Value.slice a n cap).ownBlock = some j) w w2 := (Touch.alloc _ w _).trans (Touch.grown hg2 (fun j hj _ => hj))
  rcases ho2.2 with ⟨hv, hn'⟩ | ⟨g, cap', cur, hv, r⟩
  · omega
  · subst hv
    exact ⟨_, _, w2, hap, ho2, t, fun j hj => (hnb j hj).imp id (fun h => by omega)⟩

/-! ### a new stack -/
def SNewPost (p : Nat) (R : Rp) (A' : Ar) (S : Sk) (w : World) (e : Ending) (w' : World) : Prop :=
  ∃ q R', e = .returned (.tuple #[.pointer (some ⟨q, 0, Option.none⟩), .int .i64 0]) ∧ SkAt w' q p S ∧ ArAt w' p A' R' ∧ Step w w' p R R' ∧ w.heap.size ≤ q

set_option maxHeartbeats 400000 in
theorem snew_from (cells x : Nat) (h1 : 1 ≤ cells) (h2 : cells ≤ 65536) (hx : x ≤ 4194304) (A' : Ar) (TK : Calls Try.prog 18 #[.pointer (some ⟨p, 0, Option.none⟩), .int .i64 (8 * (cells : Int))] w (TakePost p R x A' w)) :
    Calls Try.prog 31 #[.pointer (some ⟨p, 0, Option.none⟩), .int .i64 cells] w (SNewPost p R A' ⟨x, cells, 0, false⟩ w) := by
  have HT := Lib.hid TK
  clear TK
  go_enter Try.func31, Try.ntmps31
  go_wp2_with fail
  refine HT.out.mono ?_
  rintro e w2 ⟨R2, rfl, a2, st⟩
  have h0 : w.heap.size ≤ w2.heap.size := st.touch.size
  have t : Touch (fun _ => False) w2 (w2.alloc (Obj.cells #[.pointer (some ⟨p, 0, Option.none⟩), .int .i64 x, .int .i64 cells, .int .i64 0, .bool false] 97)) := Touch.alloc _ _ _
  have FIN := Lib.hid (show SNewPost p R A' ⟨x, cells, 0, false⟩ w (.returned (.tuple #[.pointer (some ⟨w2.heap.size, 0, Option.none⟩), .int .i64 0])) (w2.alloc (Obj.cells #[.pointer (some ⟨p, 0, Option.none⟩), .int .i64 x, .int .i64 cells, .int .i64 0, .bool false] 97)) from
    ⟨w2.heap.size, R2, rfl, ⟨(MapKept.heap_alloc w2 _).1, Nat.zero_le _, h2, hx⟩, a2.kept t (fun _ _ h => h), st.trans (Step.of R2 (t.mono (fun _ _ h => h.elim))), h0⟩)
  clear a2 st t
  go_wp2_with fail
  go_ret2
  exact FIN.out

set_option maxHeartbeats 400000 in
theorem snew_full (cells : Nat) (h1 : 1 ≤ cells) (h2 : cells ≤ 65536) (TK : Calls Try.prog 18 #[.pointer (some ⟨p, 0, Option.none⟩), .int .i64 (8 * (cells : Int))] w fun e w' => e = .returned (.tuple #[.int .i64 0, .int .i64 8]) ∧ ∃ n, w' = w.drewN n) :
    Calls Try.prog 31 #[.pointer (some ⟨p, 0, Option.none⟩), .int .i64 cells] w fun e w' => e = .returned (.tuple #[.pointer Option.none, .int .i64 8]) ∧ ∃ n, w' = w.drewN n := by
  have HT := Lib.hid TK
  clear TK
  go_enter Try.func31, Try.ntmps31
  go_wp2_with fail
  refine HT.out.mono ?_
  rintro e w2 ⟨rfl, n, rfl⟩
  go_wp2_with fail
  go_ret2
  exact ⟨rfl, n, rfl⟩

set_option maxHeartbeats 400000 in
theorem snew_arg (a : Addr) (cells : Int) (h : cells < 1 ∨ 65536 < cells) (w : World) :
    Calls Try.prog 31 #[.pointer (some a), .int .i64 cells] w fun e w' => e = .returned (.tuple #[.pointer Option.none, .int .i64 1]) ∧ w = w' := by
  by_cases h0 : cells < 1
  · go_enter Try.func31, Try.ntmps31
    go_wp2_with fail
    go_ret2
    exact ⟨rfl, rfl⟩
  · have h1 : 65536 < cells := by omega
    go_enter Try.func31, Try.ntmps31
    go_wp2_with fail
    go_ret2
    exact ⟨rfl, rfl⟩

/-! ### taking words -/
def topWords (S : Sk) (b : List Int) (n : Nat) : List Nat := (List.range n).map fun i => rd 8 b (S.o + 8 * (S.h - n + i))
theorem topWords_length (S : Sk) (b : List Int) (n : Nat) : (topWords S b n).length = n := by simp [topWords]

def STakePost (q p : Nat) (S : Sk) (A : Ar) (R : Rp) (n : Nat) (w : World) (e : Ending) (w' : World) : Prop :=
  ∃ a cap, e = .returned (.tuple #[.slice a n cap, .int .i64 0]) ∧ w'.ownsRow 0 47 1 (.slice a n cap) n (uvals (topWords S A.b n)) ∧ (∀ k, (Value.slice a n cap).ownBlock = some k → w.heap.size ≤ k) ∧
    SkAt w' q p { S with h := S.h - n } ∧ ArAt w' p A R ∧ Touch (· = q) w w'

set_option maxHeartbeats 1000000 in
theorem stake_ok (h : SkAt w q p S) (a : ArAt w p A R) (hc : S.closed = false) (hb : Good A.b) (ho : S.o + 8 * S.cells ≤ A.n) (n : Nat) (hn : n ≤ S.h) :
    Calls Try.prog 34 #[.pointer (some ⟨q, 0, Option.none⟩), .int .i64 n] w (STakePost q p S A R n w) := by
  have GN := Lib.hid (gone_no h hc)
  have h1 := h.hh
  have h2 := h.hc
  have c3 := h.c3
  have f3 := h.fz 3
  have s1 : SkAt (w.setCell ⟨q, 3, Option.none⟩ (.int .i64 ((S.h : Int) - (n : Int)))) q p { S with h := S.h - n } :=
    h.stored 3 _ (by simp [Sk.row]; omega) (by show S.h - n ≤ S.cells; omega) h.hc h.ho
  have t1 : Touch (· = q) w (w.setCell ⟨q, 3, Option.none⟩ (.int .i64 ((S.h : Int) - (n : Int)))) := Touch.cell1 w q 3 _
  have a1 := a.kept t1 (fun j hj e => by rw [e] at hj; exact h.off a hj)
  have H1 := Lib.hid (And.intro s1 (And.intro a1 t1))
  have hq := h.ltq
  have LT := Lib.hid (show ∀ j, fp R p j → j < w.heap.size from fun j hj => a.lt_fp hj)
  have d4 : ∀ i : Decidable (S.h < n), @decide (S.h < n) i = false := fun i => by rw [decide_eq_false_iff_not]; omega
  clear hc s1 t1 a1 a h
  go_enter Try.func34, Try.ntmps34
  go_wp2_with fail
  refine GN.out.mono ?_
  rintro e w1 ⟨rfl, rfl⟩
  go_wp2_with fail
  go_loopw [6, 31] (fun v j wr => ∃ (k : Nat) (x : Option Addr) (cap : Nat), v = .slice x k cap ∧ j = .int .i64 k ∧ k ≤ n ∧ Hid (wr.ownsRow 0 47 1 (.slice x k cap) k (uvals ((topWords S A.b n).take k))) ∧
      Hid (∀ i, (Value.slice x k cap).ownBlock = some i → w.heap.size ≤ i) ∧ SkAt wr q p { S with h := S.h - n } ∧ ArAt wr p A R ∧ Touch (· = q) w wr) (fun _ j _ => n - (intOf j).toNat)
  case atStart =>
    exact ⟨0, Option.none, 0, rfl, rfl, Nat.zero_le _, Lib.hid ⟨by simp [uvals], Or.inl ⟨rfl, rfl⟩⟩, Lib.hid (fun k hk => by simp [Value.ownBlock] at hk), H1.out.1, H1.out.2.1, H1.out.2.2⟩
  case round =>
    clear H1 GN
    obtain ⟨k, x, cap, rfl, rfl, hk, HO, HF, s, a, t⟩ := hrel
    by_cases hlt : k < n
    · have hd : ((S.h - n : Nat) : Int) = (S.h : Int) - (n : Int) := by omega
      have c3 := s.c3
      have c0 : wr.cell? ⟨q, 3, Option.none⟩ = some (.int .i64 ((S.h : Int) - (n : Int))) := by rw [← hd]; exact c3
      have SW := Lib.hid (sword_ok s a (S.h - n + k) (by show _ < S.cells; omega) ho hb)
      rw [show ((S.h - n + k : Nat) : Int) = (S.h : Int) - (n : Int) + (k : Int) by omega] at SW
      have hget : (topWords S A.b n)[k]? = some (rd 8 A.b (S.o + 8 * (S.h - n + k))) := by simp [topWords, hlt]
      have htk : (topWords S A.b n).take (k + 1) = (topWords S A.b n).take k ++ [rd 8 A.b (S.o + 8 * (S.h - n + k))] := by
        rw [List.take_add_one, hget]; rfl
      have HTK := Lib.hid htk
      have ss := Lib.hid (And.intro s (And.intro a t))
      generalize rd 8 A.b (S.o + 8 * (S.h - n + k)) = y at *
      generalize topWords S A.b n = ws at *
      have SW2 := Lib.hid (show Calls Try.prog 58 #[.pointer (some ⟨q, 0, Option.none⟩), .int .i64 ((S.h : Int) - (n : Int) + (k : Int))] wr (fun e w' => e = .returned (.int .u64 y) ∧ ∃ n, w' = wr.drewN n) from SW.out)
      clear c3 hd hget htk s a t SW
      go_wp2_with fail
      refine SW2.out.mono ?_
      rintro e w2 ⟨rfl, m, rfl⟩
      have o2 : (wr.drewN m).ownsRow 0 47 1 (.slice x k cap) k (uvals (ws.take k)) := HO.out
      obtain ⟨x', cap', w3, hap, o3, t3, hnb⟩ := app_k 52 47 .u64 8 Try.underlying52 info47 (by decide) o2 (by omega) (y : Int)
      have HAP := Lib.hid hap
      have t2 : Touch (fun _ => False) wr (wr.drewN m) := Touch.drewN _ _ _
      have F3 := Lib.hid (show ∀ i, (Value.slice x' (k + 1) cap').ownBlock = some i → w.heap.size ≤ i from fun i hi => (hnb i hi).elim (HF.out i) (fun hz => Nat.le_trans ss.out.2.2.size hz))
      have hoff : ∀ j, (Value.slice x k cap).ownBlock = some j → w.heap.size ≤ j := HF.out
      have s3 : SkAt w3 q p { S with h := S.h - n } := (ss.out.1.drewN m).kept t3 (fun h => by have := hoff q h; omega)
      have a3 : ArAt w3 p A R := (ss.out.2.1.drewN m).kept t3 (fun i hi h => by have := hoff i h; have := LT.out i hi; omega)
      have t4 : Touch (· = q) w w3 := (ss.out.2.2.trans (Touch.drewN _ wr m)).trans' t3 (fun _ _ h => h) (fun i hi h => by have := hoff i h; omega)
      have O3 := Lib.hid (show w3.ownsRow 0 47 1 (.slice x' (k + 1) cap') (k + 1) (uvals (ws.take (k + 1))) by rw [HTK.out]; simpa [uvals] using o3)
      clear hap o2 o3 t3 hnb t2 hoff ss HO HF
      go_wp2_with (at_builtin; refine wpList_append_run rfl _ _ 52 52 rfl rfl rfl HAP.out ?_)
      go_roundw
      case rel => exact ⟨k + 1, x', cap', rfl, by go_num, by omega, O3, F3, s3, a3, t4⟩
      case measure => simp [intOf]; omega
    · obtain rfl : k = n := by omega
      rw [List.take_of_length_le (by rw [topWords_length]; exact Nat.le_refl _)] at HO
      have FIN := Lib.hid (show STakePost q p S A R k w (.returned (.tuple #[.slice x k cap, .int .i64 0])) wr from ⟨x, cap, rfl, HO.out, HF.out, s, a, t⟩)
      clear HO HF s a t
      go_wp2_with fail
      go_ret2
      exact FIN.out
end Go.Proofs.Ytmjnoboeffajbaa
