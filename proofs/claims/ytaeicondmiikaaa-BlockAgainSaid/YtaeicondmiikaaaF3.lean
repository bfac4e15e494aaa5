/- The walk of the law BlockAgain: it answers true and writes nothing that was there, whatever bytes and number come in. -/
import Derived.Test.YtaeicondmiikaaaB7
namespace Go.Proofs.Ytaeicondmiikaaa
open Go.RowKit Go.Maps
set_option linter.unusedSimpArgs false
set_option linter.unusedVariables false

variable {w : World} {p bm : Nat} {S : St}

/-- k blocks, each of the same bytes. -/
structure Alike (cap k : Nat) (bs : List Int) (S : St) : Prop where
  size : S.size = 16
  cap : S.cap = cap
  keys : S.keys = (List.range k).map Int.ofNat
  ops : S.ops = 2 * k
  fail : S.fail = -1
  all : ∀ x ∈ S.m, x.2.2 = bs

theorem Alike.len {c k : Nat} {bs : List Int} {S : St} (h : Alike c k bs S) : S.m.length = k := by rw [← keys_len, h.keys]; simp
theorem Alike.fails {c k : Nat} {bs : List Int} {S : St} (h : Alike c k bs S) : S.fails = false := by simp [St.fails, h.fail]
theorem Alike.free {c k id : Nat} {bs : List Int} {S : St} (h : Alike c k bs S) (hf : Free S id) : id = k :=
  free_is hf (by show (k : Int) ∉ S.keys; rw [h.keys]; simp; intro x hx; omega) (fun j hj => by show (j : Int) ∈ S.keys; rw [h.keys]; simp; exact ⟨j, hj, rfl⟩)
theorem Alike.next {c k blk : Nat} {bs : List Int} {S : St} (h : Alike c k bs S) : Alike c (k + 1) bs ((S.did.took k blk).did.wrote k bs) where
  size := h.size
  cap := h.cap
  keys := by
    have := h.keys
    simp only [St.keys] at this
    rw [St.keys, wrote_keys]
    simp [St.took, St.did, List.range_succ, this]
  ops := by have := h.ops; simp [St.took, St.did, St.wrote]; omega
  fail := h.fail
  all := by
    intro x hx
    simp only [St.wrote, List.mem_map] at hx
    obtain ⟨z, hz, rfl⟩ := hx
    by_cases hk : z.1 = (k : Int)
    · simp [hk]
    · have hb : (z.1 == (k : Int)) = false := by simpa using hk
      rw [hb]
      simp only [St.did, St.took, List.mem_append, List.mem_singleton] at hz
      rcases hz with hz | rfl
      · exact h.all z hz
      · exact absurd rfl hk

theorem gave_len (S : St) (q : Int) {y : Int × Nat × List Int} (hy : y ∈ S.m) (he : y.1 = q) : (S.did.gave q).m.length < S.m.length := by
  simp only [St.gave, St.did]
  rw [List.length_filter_lt_length_iff_exists]
  exact ⟨y, hy, by simp [he]⟩

theorem zeros_at {n j : Nat} (h : j < n) : (vals (zeros n))[j]? = some (.int .u8 0) := by
  simp [vals, zeros, h]

set_option maxHeartbeats 1000000 in
theorem again_walk (a1 : Option Addr) (len1 cap1 : Nat) (z1 : List Int) (c : Nat) (w : World) (w1 : IsRow .u8 w a1 len1 cap1 z1) (hc : c ≤ 255) :
    Calls Try.prog 5 #[.slice a1 len1 cap1, .int .u8 c] w fun e w' => e = .returned (.bool true) ∧ Below w.heap.size w w' := by
  by_cases hlen : len1 < 16
  · clear w1
    go_enter Try.func5, Try.ntmps5
    go_wp2_with fail
    refine (awake_any w).mono ?_
    rintro e w2 ⟨rfl, hb⟩
    go_wp2_with fail
    go_ret
    exact ⟨rfl, hb⟩
  · obtain ⟨g, off, rfl, hlc, hg, hbl, hcells⟩ := w1.first (n := 16) (by omega) (by omega)
    generalize hbs : z1.take 16 = bs at *
    clear hbs w1
    have HC := Lib.hid hcells
    have HL := Lib.hid hbl
    clear hcells hbl
    go_enter Try.func5, Try.ntmps5
    go_wp2_with fail
    refine (awake_any w).mono ?_
    rintro e w2 ⟨rfl, b2⟩
    go_wp2_with fail
    refine (new_ok 16 6 w2 (by omega) (by omega) (by omega)).mono ?_
    rintro e w3 ⟨p, bm, rfl, s3, hp, hbm, t3⟩
    have b3 : Below w.heap.size w w3 := b2.trans (t3.toBelow b2.size (fun _ h => h.elim))
    have hp' : w.heap.size ≤ p := Nat.le_trans b2.size hp
    have hbm' : w.heap.size ≤ bm := Nat.le_trans b2.size hbm
    have f3 : Alike 6 0 bs ⟨16, 6, 0, 0, -1, false, []⟩ := ⟨rfl, rfl, rfl, rfl, rfl, fun x h => by cases h⟩
    clear t3 b2 hp hbm
    go_wp2_with fail
    go_loopw [7] (fun i wr => ∃ k : Nat, i = .int .i64 k ∧ k ≤ 6 ∧ (∃ S, StoreAt wr p bm S ∧ Alike 6 k bs S ∧ ∀ x ∈ S.m, w.heap.size ≤ x.2.1) ∧ Below w.heap.size w wr) (fun i _ => 6 - (intOf i).toNat)
    case atStart => exact ⟨0, rfl, Nat.zero_le _, ⟨_, s3, f3, fun x h => by cases h⟩, b3⟩
    case round =>
      clear s3 f3 b3
      obtain ⟨k, rfl, hk, ⟨S, s, f, hge⟩, b⟩ := hrel
      have hops := f.ops
      have hlen := f.len
      have hcap := f.cap
      by_cases hlt : k < 6
      · go_wp2_with fail
        refine (alloc_ok s (by omega) f.fails (by omega)).mono ?_
        rintro e w4 ⟨id, blk, hfr, rfl, s4, hblk, t4⟩
        obtain rfl : id = k := f.free hfr
        have b4 : Below w.heap.size w w4 := b.trans (t4.toBelow b.size (fun k h => by rcases h with rfl | rfl <;> assumption))
        have f5 := f.next (blk := blk)
        have hge4 : ∀ x ∈ (S.did.took id blk).m, w.heap.size ≤ x.2.1 := by
          intro x hx
          rcases List.mem_append.1 hx with hx | hx
          · exact hge x hx
          · simp only [List.mem_singleton] at hx; subst hx; exact Nat.le_trans b.size hblk
        have WR := Lib.hid (write_ok s4 (by show S.ops + 1 < _; omega) (by simp [St.fails, St.took, St.did, f.fail]) (id : Int) (y := ((id : Int), blk, zeros S.size)) (by simp [St.took, St.did]) rfl ⟨g, off, Option.none⟩ 16 cap1 f.size.symm bs HL.out (HC.out w4 b4)
          (by
            intro h
            have : g < w.heap.size := hg
            rcases h with h | h | h
            · simp only at h; omega
            · simp only at h; omega
            · obtain ⟨x, hx, he⟩ := List.mem_map.1 h
              have := hge4 x hx
              simp only at he; omega))
        clear b s f hops hlen hcap hfr hblk t4 hge
        go_wp2_with fail
        refine WR.out.mono ?_
        rintro e w5 ⟨rfl, s5, t5⟩
        have hge5 : ∀ x ∈ ((S.did.took id blk).did.wrote id bs).m, w.heap.size ≤ x.2.1 := by
          intro x hx
          simp only [St.wrote, List.mem_map] at hx
          obtain ⟨z, hz, rfl⟩ := hx
          split
          · exact hge4 z hz
          · exact hge4 z hz
        have b5 : Below w.heap.size w w5 := b4.trans (t5.toBelow b4.size (fun k h => by
          rcases h with rfl | rfl | h
          · assumption
          · assumption
          · obtain ⟨x, hx, rfl⟩ := List.mem_map.1 h
            exact hge4 x hx))
        clear b4 t5 WR hge4 s4
        go_wp2_with fail
        go_roundw
        case rel => exact ⟨id + 1, by go_num, by omega, ⟨_, s5, f5, hge5⟩, b5⟩
        case measure => simp [intOf]; omega
      · obtain rfl : k = 6 := by omega
        have hkeys := f.keys
        have hall := f.all
        have hfail := f.fail
        have hsz := f.size
        go_wp2_with fail
        rw [show ((c : Int) % 6) = ((c % 6 : Nat) : Int) by omega]
        have hq6 : c % 6 < 6 := Nat.mod_lt _ (by omega)
        generalize c % 6 = q at *
        have hin : ∀ j : Nat, j < 6 → ∃ y ∈ S.m, y.1 = (j : Int) := by
          intro j hj
          have : (j : Int) ∈ S.keys := by rw [hkeys]; simp; exact ⟨j, hj, rfl⟩
          obtain ⟨y, hy, he⟩ := List.mem_map.1 this
          exact ⟨y, hy, he⟩
        have HIN := Lib.hid hin
        have HALL := Lib.hid hall
        have HKEYS := Lib.hid hkeys
        have HFAIL := Lib.hid hfail
        have HSZ := Lib.hid hsz
        have HOPS := Lib.hid hops
        have HLEN := Lib.hid hlen
        have HCAP := Lib.hid hcap
        clear hin hall hkeys hfail hsz hops hlen hcap hlt hk
        obtain ⟨y, hy, hyq⟩ := HIN.out q hq6
        have FIN := Lib.hid (free_there s (by have := HOPS.out; omega) q hy hyq)
        clear hy hyq
        refine FIN.out.mono ?_
        rintro e w6 ⟨he, s6, t6⟩
        rw [show S.fails = false by simp [St.fails, HFAIL.out]] at he s6
        subst he
        have b6 : Below w.heap.size w w6 := b.trans (t6.toBelow b.size (fun k h => by rcases h with rfl | rfl <;> assumption))
        clear t6 b s FIN
        simp only [if_false, Bool.false_eq_true] at s6
        have hk6 : ∀ x : Int, x ∈ (S.did.gave q).m.map (·.1) ↔ x ∈ S.keys ∧ x ≠ q := by
          intro x
          simp only [St.gave, St.did, St.keys, List.mem_map, List.mem_filter]
          constructor
          · rintro ⟨z, ⟨hz, hzq⟩, rfl⟩
            exact ⟨⟨z, hz, rfl⟩, by simpa using hzq⟩
          · rintro ⟨⟨z, hz, rfl⟩, hne⟩
            exact ⟨z, ⟨hz, by simpa using hne⟩, rfl⟩
        have HK6 := Lib.hid hk6
        clear hk6
        go_wp2_with fail
        refine (read_absent s6 q (by rw [HK6.out]; simp)).mono ?_
        rintro e w7 ⟨rfl, rfl⟩
        go_wp2_with fail
        refine (alloc_ok s6 (by have := HOPS.out; show S.ops + 1 < _; omega) (by simp [St.fails, St.did, St.gave, HFAIL.out]) (by
          have h1 : (S.did.gave q).m.length < S.m.length := by
            obtain ⟨y', hy', he'⟩ := HIN.out q hq6
            exact gave_len S q hy' he'
          have := HLEN.out; have := HCAP.out
          show _ < S.cap; omega)).mono ?_
        rintro e w8 ⟨id, blk, hfr, rfl, s8, hblk, t8⟩
        obtain rfl : id = q := free_is hfr (by rw [HK6.out]; simp) (fun j hj => by rw [HK6.out, HKEYS.out]; simp; exact ⟨⟨j, by omega, rfl⟩, by omega⟩)
        have b8 : Below w.heap.size w w8 := b6.trans (t8.toBelow b6.size (fun k h => by rcases h with rfl | rfl <;> assumption))
        clear hfr hblk t8 s6 b6
        have hm8 : ((S.did.gave id).did.took id blk).ops = S.ops + 2 := by simp [St.did, St.gave, St.took]
        have HM8 := Lib.hid hm8
        have hf8 : ((S.did.gave id).did.took id blk).fails = false := by simp [St.fails, St.did, St.gave, St.took, HFAIL.out]
        have HF8 := Lib.hid hf8
        clear hm8 hf8
        go_wp2_with fail
        refine (read_ok s8 (by rw [HM8.out, HOPS.out]; omega) HF8.out id (y := ((id : Int), blk, zeros ((S.did.gave id).did).size)) (by simp [St.took]) rfl).mono ?_
        rintro e w9 ⟨g9, cap9, rfl, o9, s9, t9⟩
        have b9 : Below w.heap.size w w9 := b8.trans (t9.toBelow b8.size (fun k h => by rw [h]; exact hp'))
        have hsz9 : ((S.did.gave id).did.took id blk).size = 16 := HSZ.out
        rw [hsz9] at o9
        rw [hsz9]
        have hz9 : ((S.did.gave id).did).size = 16 := HSZ.out
        simp only [hz9] at o9
        have hc9 : ∀ j, j < 16 → w9.cell? ⟨g9, j, Option.none⟩ = some (.int .u8 0) := by
          intro j hj
          have := ownRow_cells o9 j _ (zeros_at hj)
          rwa [Addr.add_lit, Nat.zero_add] at this
        have HC9 := Lib.hid hc9
        clear hc9
        clear t9 b8 s8 hsz9 hz9 o9
        go_wp2_with fail
        go_loop [16] (fun i => ∃ j : Nat, i = .int .i64 j ∧ j ≤ 16) (fun i => 16 - (intOf i).toNat)
        case atStart => exact ⟨0, rfl, by omega⟩
        case round =>
          obtain ⟨j, rfl, hj⟩ := hrel
          by_cases hlt : j < 16
          · have hcell := HC9.out j hlt
            go_wp2_with fail
            go_round
            case rel => exact ⟨j + 1, by go_num, by omega⟩
            case measure => simp [intOf]; omega
          · obtain rfl : j = 16 := by omega
            clear hlt hj
            go_wp2_with fail
            rw [show (((id : Int) + 1) % 6) = (((id + 1) % 6 : Nat) : Int) by omega]
            have hr6 : (id + 1) % 6 < 6 := Nat.mod_lt _ (by omega)
            have hrne : ¬ (((id + 1) % 6 : Nat) : Int) = (id : Int) := by omega
            generalize (id + 1) % 6 = r at *
            obtain ⟨y, hy, hyr⟩ := HIN.out r hr6
            have hbs := HALL.out y hy
            have hy' : y ∈ ((S.did.gave id).did.took id blk).did.m := by
              simp only [St.did, St.gave, St.took, List.mem_append, List.mem_filter]
              exact .inl ⟨hy, by simp [hyr]; omega⟩
            have RD := Lib.hid (read_ok s9 (by have := HM8.out; have := HOPS.out; show _ + 1 < _; omega) (by simp [St.fails, St.did, St.gave, St.took, HFAIL.out]) r hy' hyr)
            rw [hbs] at RD
            clear hy hyr hbs hy' hrne hr6 y
            refine RD.out.mono ?_
            rintro e w10 ⟨g10, cap10, rfl, o10, s10, t10⟩
            have b10 : Below w.heap.size w w10 := b9.trans (t10.toBelow b9.size (fun k h => by rw [h]; exact hp'))
            have hsz10 : ((S.did.gave id).did.took id blk).did.size = 16 := HSZ.out
            rw [hsz10] at o10
            rw [hsz10]
            have hcv1 : ∀ n, (convert 22 9 (.slice (some ⟨g10, 0, Option.none⟩) 16 cap10)).run Try.prog (w10.drewN n) = .ok (.string (bstr bs)) (w10.drewN n) :=
              fun n => conv22 (w10.drewN n) ⟨g10, 0, Option.none⟩ 16 cap10 bs HL.out (ownRow_cells o10)
            have hcv2 : ∀ n, (convert 22 9 (.slice (some ⟨g, off, Option.none⟩) 16 cap1)).run Try.prog (w10.drewN n) = .ok (.string (bstr bs)) (w10.drewN n) :=
              fun n => conv22 (w10.drewN n) ⟨g, off, Option.none⟩ 16 cap1 bs HL.out (HC.out w10 b10)
            clear t10 b9 s9 hsz10 RD s10 o10
            go_wp2_with fail
            go_quiet (fail)
            go_wp2_with fail
            go_ret
            exact ⟨rfl, ⟨b10.os, b10.tape, b10.output, b10.size, b10.block⟩⟩
end Go.Proofs.Ytaeicondmiikaaa
