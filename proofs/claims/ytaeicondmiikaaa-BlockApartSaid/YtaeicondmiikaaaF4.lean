/- The walk of the law BlockApart: it answers true and writes nothing that was there, whatever bytes and numbers come in. -/
import Derived.Test.YtaeicondmiikaaaB7
import Derived.Test.YtaeicondmiikaaaF1
import Derived.Deep.RegionWith
namespace Go.Proofs.Ytaeicondmiikaaa
open Go.RowKit Go.Maps
set_option linter.unusedSimpArgs false
set_option linter.unusedVariables false

variable {w : World} {p bm : Nat} {S : St}

def WriteArg (w0 : World) (p bm : Nat) (S : St) (id : Int) (bs : List Int) (e : Ending) (w' : World) : Prop :=
  e = .returned (.int .i64 0) ∧ StoreAt w' p bm (S.did.wrote id bs) ∧ Below w0.heap.size w0 w' ∧ ∀ x ∈ (S.did.wrote id bs).m, w0.heap.size ≤ x.2.1

theorem write_arg {w0 w : World} {p bm : Nat} {S : St} (h : StoreAt w p bm S) (b : Below w0.heap.size w0 w) (hp : w0.heap.size ≤ p) (hbm : w0.heap.size ≤ bm) (hge : ∀ x ∈ S.m, w0.heap.size ≤ x.2.1)
    (ho : S.ops < 4611686018427387904) (hf : S.fails = false) (id : Int) (hin : id ∈ S.keys) (g off n c : Nat) (hn : n = S.size) (hg : g < w0.heap.size) (bs : List Int) (hb : bs.length = n)
    (hx : ∀ w', Below w0.heap.size w0 w' → ∀ j u, (vals bs)[j]? = some u → w'.cell? ((⟨g, off, Option.none⟩ : Addr).add j) = some u) :
    Calls Try.prog 14 #[.pointer (some ⟨p, 0, Option.none⟩), .int .i64 id, .slice (some ⟨g, off, Option.none⟩) n c] w (WriteArg w0 p bm S id bs) := by
  obtain ⟨y, hy, he⟩ := List.mem_map.1 hin
  have hfp : ∀ k, fp S p bm k → w0.heap.size ≤ k := by
    intro k h
    rcases h with rfl | rfl | h
    · assumption
    · assumption
    · obtain ⟨x, hx, rfl⟩ := List.mem_map.1 h
      exact hge x hx
  refine (write_ok h ho hf id hy he ⟨g, off, Option.none⟩ n c hn bs hb (hx w b) (fun h => by have := hfp _ h; simp only at this; omega)).mono ?_
  rintro e w' ⟨rfl, s, t⟩
  refine ⟨rfl, s, b.trans (t.toBelow b.size hfp), ?_⟩
  intro x hx
  simp only [St.wrote, List.mem_map] at hx
  obtain ⟨z, hz, rfl⟩ := hx
  split
  · exact hge z hz
  · exact hge z hz

theorem wrote_find {S : St} {k : Int} (id : Int) (bs : List Int) {y : Int × Nat × List Int} (hy : y ∈ S.m) (hk : y.1 = k) : ∃ z ∈ (S.wrote id bs).m, z.1 = k ∧ z.2.2 = if k = id then bs else y.2.2 := by
  refine ⟨if y.1 == id then (y.1, y.2.1, bs) else y, ?_, ?_, ?_⟩
  · simp only [St.wrote, List.mem_map]
    exact ⟨y, hy, rfl⟩
  · split <;> exact hk
  · by_cases h : k = id
    · simp [hk, h]
    · simp [hk, h]

theorem wrote_key {S : St} {k : Int} (id : Int) (bs : List Int) (h : k ∈ S.keys) : k ∈ (S.did.wrote id bs).keys := by
  rw [St.keys, wrote_keys]; exact h

def ReadArg (w0 : World) (p bm : Nat) (S : St) (bs : List Int) (w : World) (e : Ending) (w' : World) : Prop :=
  ∃ g cap, e = .returned (.tuple #[.slice (some ⟨g, 0, Option.none⟩) S.size cap, .int .i64 0]) ∧ (∀ w'', Touch (· = p) w' w'' → ∀ j u, (vals bs)[j]? = some u → w''.cell? ((⟨g, 0, Option.none⟩ : Addr).add j) = some u) ∧ StoreAt w' p bm S.did ∧ Below w0.heap.size w0 w' ∧ Touch (· = p) w w'

theorem read_arg {w0 w : World} {p bm : Nat} {S : St} (h : StoreAt w p bm S) (b : Below w0.heap.size w0 w) (hp : w0.heap.size ≤ p)
    (ho : S.ops < 4611686018427387904) (hf : S.fails = false) (id : Int) (bs : List Int) (hin : ∃ z ∈ S.m, z.1 = id ∧ z.2.2 = bs) :
    Calls Try.prog 15 #[.pointer (some ⟨p, 0, Option.none⟩), .int .i64 id] w (ReadArg w0 p bm S bs w) := by
  obtain ⟨z, hz, hk, rfl⟩ := hin
  refine (read_ok h ho hf id hz hk).mono ?_
  rintro e w' ⟨g, cap, rfl, o, s, t⟩
  have hge : w.heap.size ≤ g := (o.lt g rfl).1
  have hlt := h.ltp
  refine ⟨g, cap, rfl, fun w'' b' j u hu => ?_, s, b.trans (t.toBelow b.size (fun k h => by rw [h]; exact hp)), t⟩
  have hc := ownRow_cells o j u hu
  rw [Addr.add_lit] at hc ⊢
  exact b'.cell hc (fun e => by simp only at e; omega)

set_option maxHeartbeats 1000000 in
theorem apart_walk (a1 : Option Addr) (len1 cap1 : Nat) (z1 : List Int) (a2 : Option Addr) (len2 cap2 : Nat) (z2 : List Int) (c1 c2 : Nat) (w : World) (w1 : IsRow .u8 w a1 len1 cap1 z1) (w2 : IsRow .u8 w a2 len2 cap2 z2) (hc1 : c1 ≤ 255) (hc2 : c2 ≤ 255) :
    Calls Try.prog 4 #[.slice a1 len1 cap1, .slice a2 len2 cap2, .int .u8 c1, .int .u8 c2] w fun e w' => e = .returned (.bool true) ∧ Below w.heap.size w w' := by
  by_cases hlen1 : len1 < 16
  · clear w1 w2
    go_enter Try.func4, Try.ntmps4
    go_wp2_with fail
    refine (awake_any w).mono ?_
    rintro e w2 ⟨rfl, hb⟩
    go_wp2_with fail
    go_ret
    exact ⟨rfl, hb⟩
  by_cases hlen2 : len2 < 16
  · clear w1 w2
    go_enter Try.func4, Try.ntmps4
    go_wp2_with fail
    refine (awake_any w).mono ?_
    rintro e w2 ⟨rfl, hb⟩
    go_wp2_with fail
    go_ret
    exact ⟨rfl, hb⟩
  obtain ⟨g, off, rfl, hlc, hg, hbl, hcells⟩ := w1.first (n := 16) (by omega) (by omega)
  obtain ⟨g', off', rfl, hlc', hg', hbl', hcells'⟩ := w2.first (n := 16) (by omega) (by omega)
  generalize hbs : z1.take 16 = xs at *
  generalize hbs' : z2.take 16 = bs at *
  clear hbs w1 hbs' w2
  have HC := Lib.hid hcells
  have HL := Lib.hid hbl
  have HC' := Lib.hid hcells'
  have HL' := Lib.hid hbl'
  clear hcells hbl hcells' hbl'
  go_enter Try.func4, Try.ntmps4
  go_wp2_with fail
  refine (awake_any w).mono ?_
  rintro e w2 ⟨rfl, b2⟩
  go_wp2_with fail
  refine (new_ok 16 8 w2 (by omega) (by omega) (by omega)).mono ?_
  rintro e w3 ⟨p, bm, rfl, s3, hp, hbm, t3⟩
  have b3 : Below w.heap.size w w3 := b2.trans (t3.toBelow b2.size (fun _ h => h.elim))
  have hp' : w.heap.size ≤ p := Nat.le_trans b2.size hp
  have hbm' : w.heap.size ≤ bm := Nat.le_trans b2.size hbm
  have f3 : Filled 8 0 ⟨16, 8, 0, 0, -1, false, []⟩ := ⟨rfl, rfl, rfl, rfl, rfl, rfl⟩
  clear t3 b2 hp hbm
  go_wp2_with fail
  go_loopw [11] (fun i wr => ∃ k : Nat, i = .int .i64 k ∧ k ≤ 8 ∧ (∃ S, StoreAt wr p bm S ∧ Filled 8 k S ∧ ∀ x ∈ S.m, w.heap.size ≤ x.2.1) ∧ Below w.heap.size w wr) (fun i _ => 8 - (intOf i).toNat)
  case atStart => exact ⟨0, rfl, Nat.zero_le _, ⟨_, s3, f3, fun x h => by cases h⟩, b3⟩
  case round =>
    clear s3 f3 b3
    obtain ⟨k, rfl, hk, ⟨S, s, f, hge⟩, b⟩ := hrel
    have hops := f.ops
    have hlen := f.len
    have hcap := f.cap
    by_cases hlt : k < 8
    · go_wp2_with fail
      refine (alloc_ok s (by omega) f.fails (by omega)).mono ?_
      rintro e w4 ⟨id, blk, hfr, rfl, s4, hblk, t4⟩
      obtain rfl : id = k := f.free hfr
      have b4 : Below w.heap.size w w4 := b.trans (t4.toBelow b.size (fun k h => by rcases h with rfl | rfl <;> assumption))
      have f5 := f.next (blk := blk)
      have hge4 : ∀ x ∈ (S.did.took id blk).m, w.heap.size ≤ x.2.1 := by
        intro x hx
        rcases List.mem_append.1 hx with hx | hx
        · exact hge x hx
        · simp only [List.mem_singleton] at hx; subst hx; exact Nat.le_trans b.size hblk
      clear b s f hops hlen hcap hfr hblk t4 hge
      go_wp2_with fail
      go_roundw
      case rel => exact ⟨id + 1, by go_num, by omega, ⟨_, s4, f5, hge4⟩, b4⟩
      case measure => simp [intOf]; omega
    · obtain rfl : k = 8 := by omega
      have HF := Lib.hid f
      have hfails := f.fails
      have HFA := Lib.hid hfails
      have HGE := Lib.hid hge
      clear hops hlen hcap hlt hk f hge hfails
      go_wp2_with fail
      rw [show ((c1 : Int) % 8) = ((c1 % 8 : Nat) : Int) by omega, show ((c2 : Int) % 8) = ((c2 % 8 : Nat) : Int) by omega]
      have hx8 : c1 % 8 < 8 := Nat.mod_lt _ (by omega)
      have hy8 : c2 % 8 < 8 := Nat.mod_lt _ (by omega)
      generalize c1 % 8 = x at *
      generalize c2 % 8 = y at *
      have hmem : ∀ j : Nat, j < 8 → (j : Int) ∈ S.keys := fun j hj => by rw [HF.out.keys]; simp; exact ⟨j, hj, rfl⟩
      have WR1 := Lib.hid (write_arg (w0 := w) s.drew (b.drew) hp' hbm' HGE.out (by rw [HF.out.ops]; omega) HFA.out x (hmem x hx8) g off 16 cap1 HF.out.size.symm hg xs HL.out HC.out)
      have WR2 := Lib.hid (fun w5 (s5 : StoreAt w5 p bm (S.did.wrote x xs)) (b5 : Below w.heap.size w w5) hge5 => write_arg (w0 := w) s5 b5 hp' hbm' hge5 (by show S.ops + 1 < _; rw [HF.out.ops]; omega) (by have := HF.out.fail; simp [St.fails, St.did, St.wrote, this]) y (wrote_key _ _ (hmem y hy8)) g' off' 16 cap2 HF.out.size.symm hg' bs HL'.out HC'.out)
      have hfind : ∀ j : Nat, j < 8 → ∃ z ∈ S.did.m, z.1 = (j : Int) := fun j hj => by
        obtain ⟨z, hz, hk⟩ := List.mem_map.1 (hmem j hj)
        exact ⟨z, hz, hk⟩
      have hY : ∃ z ∈ ((S.did.wrote x xs).did.wrote y bs).m, z.1 = (y : Int) ∧ z.2.2 = bs := by
        obtain ⟨z, hz, hk⟩ := hfind y hy8
        obtain ⟨z2, hz2, hk2, _⟩ := wrote_find (x : Int) xs hz hk
        obtain ⟨z3, hz3, hk3, he3⟩ := wrote_find (S := (S.did.wrote x xs).did) (y : Int) bs hz2 hk2
        exact ⟨z3, hz3, hk3, by rw [he3]; simp⟩
      have hX : ∃ cx : List Int, ((x = y → cx = bs) ∧ (x ≠ y → cx = xs)) ∧ cx.length = 16 ∧ ∃ z ∈ ((S.did.wrote x xs).did.wrote y bs).m, z.1 = (x : Int) ∧ z.2.2 = cx := by
        obtain ⟨z, hz, hk⟩ := hfind x hx8
        obtain ⟨z2, hz2, hk2, he2⟩ := wrote_find (x : Int) xs hz hk
        obtain ⟨z3, hz3, hk3, he3⟩ := wrote_find (S := (S.did.wrote x xs).did) (y : Int) bs hz2 hk2
        by_cases hxy : x = y
        · exact ⟨bs, ⟨fun _ => rfl, fun h => absurd hxy h⟩, HL'.out, z3, hz3, hk3, by rw [he3]; simp [hxy]⟩
        · refine ⟨xs, ⟨fun h => absurd h hxy, fun _ => rfl⟩, HL.out, z3, hz3, hk3, ?_⟩
          rw [he3, if_neg (by omega), he2]; simp
      obtain ⟨cx, hcx, hcl, hX⟩ := hX
      have HX := Lib.hid hX
      have HY := Lib.hid hY
      have HCX := Lib.hid hcx
      have HCL := Lib.hid hcl
      have hops2 : ((S.did.wrote x xs).did.wrote y bs).ops = 10 + 0 + (0 * x) := by simp [St.wrote, St.did, HF.out.ops]
      have HO2 := Lib.hid hops2
      have hfl2 : ((S.did.wrote x xs).did.wrote y bs).fail = -1 := HF.out.fail
      have HFL2 := Lib.hid hfl2
      have hsz2 : ((S.did.wrote x xs).did.wrote y bs).size = 16 := HF.out.size
      have HSZ2 := Lib.hid hsz2
      clear s b hmem hfind hY hX hcx hcl hops2 hfl2 hsz2
      go_region_with (first | (go_at_call 14; (with_reducible refine WR1.out.mono ?_); rintro e w5 ⟨rfl, s5, b5, hge5⟩) | (go_at_call 14; (with_reducible refine (WR2.out _ s5 b5 hge5).mono ?_); rintro e w6 ⟨rfl, s6, b6, hge6⟩))
      all_goals
        clear WR1 WR2 s5 b5 hge5 hge6
        generalize (S.did.wrote x xs).did.wrote y bs = S2 at *
        have R1 := Lib.hid (read_arg (w0 := w) s6 b6 hp' (by rw [HO2.out]; omega) (by simp [St.fails, HFL2.out]) x cx HX.out)
        have R2 := Lib.hid (fun w7 (s7 : StoreAt w7 p bm S2.did) b7 => read_arg (w0 := w) s7 b7 hp' (by show S2.ops + 1 < _; rw [HO2.out]; omega) (by simp [St.fails, St.did, HFL2.out]) y bs HY.out)
        go_wp2_with fail
        refine R1.out.mono ?_
        rintro e w7 ⟨g7, cap7, rfl, hc7, s7, b7, t7⟩
        rw [HSZ2.out]
        have HC7 := Lib.hid hc7
        clear hc7
        go_wp2_with fail
        refine (R2.out _ s7 b7).mono ?_
        rintro e w8 ⟨g8, cap8, rfl, hc8, s8, b8, t8⟩
        rw [show S2.did.size = 16 from HSZ2.out]
        have hcv1 : ∀ n, (convert 22 9 (.slice (some ⟨g8, 0, Option.none⟩) 16 cap8)).run Try.prog (w8.drewN n) = .ok (.string (bstr bs)) (w8.drewN n) :=
          fun n => conv22 (w8.drewN n) ⟨g8, 0, Option.none⟩ 16 cap8 bs HL'.out (hc8 _ (Touch.drewN _ w8 n))
        have hcv2 : ∀ n, (convert 22 9 (.slice (some ⟨g', off', Option.none⟩) 16 cap2)).run Try.prog (w8.drewN n) = .ok (.string (bstr bs)) (w8.drewN n) :=
          fun n => conv22 (w8.drewN n) ⟨g', off', Option.none⟩ 16 cap2 bs HL'.out (HC'.out w8 b8)
        have hcv3 : ∀ n m, (convert 22 9 (.slice (some ⟨g7, 0, Option.none⟩) 16 cap7)).run Try.prog ((w8.drewN n).drewN m) = .ok (.string (bstr cx)) ((w8.drewN n).drewN m) :=
          fun n m => conv22 ((w8.drewN n).drewN m) ⟨g7, 0, Option.none⟩ 16 cap7 cx HCL.out (HC7.out _ (t8.trans ((Touch.drewN _ w8 n).trans (Touch.drewN _ _ m))))
        have hcv4 : ∀ n m, (convert 22 9 (.slice (some ⟨g', off', Option.none⟩) 16 cap2)).run Try.prog ((w8.drewN n).drewN m) = .ok (.string (bstr bs)) ((w8.drewN n).drewN m) :=
          fun n m => conv22 ((w8.drewN n).drewN m) ⟨g', off', Option.none⟩ 16 cap2 bs HL'.out (HC'.out w8 b8)
        have hcv5 : ∀ n m, (convert 22 9 (.slice (some ⟨g, off, Option.none⟩) 16 cap1)).run Try.prog ((w8.drewN n).drewN m) = .ok (.string (bstr xs)) ((w8.drewN n).drewN m) :=
          fun n m => conv22 ((w8.drewN n).drewN m) ⟨g, off, Option.none⟩ 16 cap1 xs HL.out (HC.out w8 b8)
        have HCV := Lib.hid (And.intro hcv3 (And.intro hcv4 hcv5))
        clear hcv3 hcv4 hcv5 hc8 t7 t8 s7 s8 b7 R1 R2 b6 s6
        go_wp2_with fail
        go_quiet (fail)
        go_wp2_with fail
        obtain ⟨hcv3, hcv4, hcv5⟩ := HCV.out
        have hd3 := hcv3 nq
        have hd4 := hcv4 nq
        have hd5 := hcv5 nq
        have b9 : Below w.heap.size w (w8.drewN nq) := ⟨b8.os, b8.tape, b8.output, b8.size, b8.block⟩
        clear hcv1 hcv2 hcv3 hcv4 hcv5 HCV b8
        generalize w8.drewN nq = w9 at *
        by_cases hxy : x = y
        · have e1 := HCX.out.1 hxy
          have hb1 : ((x : Int) == (y : Int)) = true := by simp [hxy]
          rw [e1] at hd3
          clear hxy e1
          go_quiet (fail)
          go_wp2_with fail
          go_ret
          exact ⟨rfl, ⟨b9.os, b9.tape, b9.output, b9.size, b9.block⟩⟩
        · have e1 := HCX.out.2 hxy
          have hb1 : ((x : Int) == (y : Int)) = false := by simp; omega
          have hb2 : ((x : Int) != (y : Int)) = true := by simp; omega
          rw [e1] at hd3
          clear hxy e1
          go_quiet (fail)
          go_wp2_with fail
          go_ret
          exact ⟨rfl, ⟨b9.os, b9.tape, b9.output, b9.size, b9.block⟩⟩
end Go.Proofs.Ytaeicondmiikaaa
