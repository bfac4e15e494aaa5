/- The walk of the law BlockFills: it answers true and writes nothing that was there, whatever number and bytes come in. -/
import Derived.Test.YtaeicondmiikaaaB6
import Derived.Deep.LoopGhost
namespace Go.Proofs.Ytaeicondmiikaaa
open Go.RowKit Go.Maps
set_option linter.unusedSimpArgs false
set_option linter.unusedVariables false

variable {w : World} {p bm : Nat} {S : St}

/-- Behind k blocks that were had one behind the other. -/
structure Filled (n k : Nat) (S : St) : Prop where
  size : S.size = 16
  cap : S.cap = n
  keys : S.keys = (List.range k).map Int.ofNat
  ops : S.ops = k
  peak : S.peak = k
  fail : S.fail = -1

theorem Filled.len {n k : Nat} {S : St} (h : Filled n k S) : S.m.length = k := by rw [← keys_len, h.keys]; simp
theorem Filled.fails {n k : Nat} {S : St} (h : Filled n k S) : S.fails = false := by simp [St.fails, h.fail]
theorem Filled.free {n k id : Nat} {S : St} (h : Filled n k S) (hf : Free S id) : id = k :=
  free_is hf (by show (k : Int) ∉ S.keys; rw [h.keys]; simp; intro x hx; omega) (fun j hj => by show (j : Int) ∈ S.keys; rw [h.keys]; simp; exact ⟨j, hj, rfl⟩)
theorem Filled.next {n k blk : Nat} {S : St} (h : Filled n k S) : Filled n (k + 1) (S.did.took k blk) where
  size := h.size
  cap := h.cap
  keys := by
    have := h.keys
    simp only [St.keys] at this
    simp [St.keys, St.took, St.did, List.range_succ, this]
  ops := by simp [St.took, St.did, h.ops]
  peak := by simp [St.took, St.did, h.peak, h.len]
  fail := h.fail

/-- Whatever was given back: what is known of the store. -/
structure Held (n : Nat) (last : Int) (o : Nat) (S : St) : Prop where
  size : S.size = 16
  cap : S.cap = n
  peak : S.peak = n
  fail : S.fail = -1
  range : ∀ x ∈ S.keys, 0 ≤ x ∧ x < n
  free : ∀ j : Nat, j < n → (j : Int) ∉ S.keys → last < j
  ops : S.ops ≤ o

theorem Held.fails {n o : Nat} {last : Int} {S : St} (h : Held n last o S) : S.fails = false := by simp [St.fails, h.fail]

theorem Filled.held {n : Nat} {S : St} (h : Filled n n S) : Held n (-1) (n + 1) S.did where
  size := h.size
  cap := h.cap
  peak := h.peak
  fail := h.fail
  range := by
    intro x hx
    have : x ∈ S.keys := hx
    rw [h.keys] at this
    simp at this
    obtain ⟨a, ha, rfl⟩ := this
    omega
  free := fun j _ _ => by omega
  ops := by simp [St.did, h.ops]

theorem Held.give {n o : Nat} {S : St} (h : Held n (-1) o S) (id : Int) : Held n (-1) (o + 1) (S.did.gave id) where
  size := h.size
  cap := h.cap
  peak := h.peak
  fail := h.fail
  range := by
    intro x hx
    refine h.range x ?_
    simp only [St.keys, St.gave, St.did, List.mem_map, List.mem_filter] at hx ⊢
    obtain ⟨y, ⟨hy, _⟩, rfl⟩ := hx
    exact ⟨y, hy, rfl⟩
  free := fun j _ _ => by omega
  ops := by have := h.ops; simp [St.did, St.gave]; omega

theorem Held.more {n o o' : Nat} {last : Int} {S : St} (h : Held n last o S) (ho : o ≤ o') : Held n last o' S := ⟨h.size, h.cap, h.peak, h.fail, h.range, h.free, Nat.le_trans h.ops ho⟩

theorem exists_free {n : Nat} {l : List Int} (h : l.length < n) : ∃ j : Nat, j < n ∧ (j : Int) ∉ l := by
  apply Classical.byContradiction
  intro hn
  have : n ≤ l.length := below_len (fun j hj => by
    apply Classical.byContradiction
    intro hm
    exact hn ⟨j, hj, hm⟩)
  omega

theorem Held.id {n o id : Nat} {last : Int} {S : St} (h : Held n last o S) (hl : S.m.length < n) (hf : Free S id) : id < n ∧ last < id := by
  obtain ⟨j, hj, hjn⟩ := exists_free (l := S.keys) (by rw [keys_len]; exact hl)
  have h1 : id ≤ j := by
    rcases Nat.lt_or_ge j id with h' | h'
    · exact absurd (hf.2 j h') hjn
    · exact h'
  exact ⟨by omega, h.free id (by omega) hf.1⟩

theorem Held.take {n o id blk : Nat} {last : Int} {S : St} (h : Held n last o S) (hl : S.m.length < n) (hf : Free S id) : Held n id (o + 1) (S.did.took id blk) where
  size := h.size
  cap := h.cap
  peak := by have := h.peak; simp [St.took, St.did]; omega
  fail := h.fail
  range := by
    intro x hx
    simp only [St.keys, St.took, St.did, List.map_append, List.map_cons, List.map_nil, List.mem_append, List.mem_singleton] at hx
    rcases hx with hx | rfl
    · exact h.range x hx
    · have := h.id hl hf; omega
  free := by
    intro j hj hjn
    simp only [St.keys, St.took, St.did, List.map_append, List.map_cons, List.map_nil, List.mem_append, List.mem_singleton, not_or] at hjn
    rcases Nat.lt_trichotomy j id with h' | h' | h'
    · exact absurd (hf.2 j h') hjn.1
    · exact absurd (by rw [h']) hjn.2
    · omega
  ops := by have := h.ops; simp [St.took, St.did]; omega

set_option maxHeartbeats 1000000 in
theorem fills_walk (c : Nat) (a1 : Option Addr) (len1 cap1 : Nat) (z1 : List Int) (w : World) (hc : c ≤ 255) (w1 : IsRow .u8 w a1 len1 cap1 z1) :
    Calls Try.prog 3 #[.int .u8 c, .slice a1 len1 cap1] w fun e w' => e = .returned (.bool true) ∧ Below w.heap.size w w' := by
  have W1 := Lib.hid w1
  by_cases hlen : 40 < len1
  · clear w1
    go_enter Try.func3, Try.ntmps3
    go_wp2_with fail
    refine (awake_any w).mono ?_
    rintro e w2 ⟨rfl, hb⟩
    go_wp2_with fail
    go_ret
    exact ⟨rfl, hb⟩
  · clear w1
    go_enter Try.func3, Try.ntmps3
    go_wp2_with fail
    refine (awake_any w).mono ?_
    rintro e w2 ⟨rfl, b2⟩
    go_wp2_with fail
    rw [show ((c : Int) % 40) = ((c % 40 : Nat) : Int) by omega]
    have hn40 : c % 40 < 40 := Nat.mod_lt _ (by omega)
    generalize c % 40 = n at *
    refine (new_ok 16 n w2 (by omega) (by omega) (by omega)).mono ?_
    rintro e w3 ⟨p, bm, rfl, s3, hp, hbm, t3⟩
    have b3 : Below w.heap.size w w3 := b2.trans (t3.toBelow b2.size (fun _ h => h.elim))
    have hp' : w.heap.size ≤ p := Nat.le_trans b2.size hp
    have hbm' : w.heap.size ≤ bm := Nat.le_trans b2.size hbm
    have f3 : Filled n 0 ⟨16, n, 0, 0, -1, false, []⟩ := ⟨rfl, rfl, rfl, rfl, rfl, rfl⟩
    clear t3 b2 hp hbm
    go_wp2_with fail

    go_loopw [8] (fun i wr => ∃ k : Nat, i = .int .i64 k ∧ k ≤ n ∧ (∃ S, StoreAt wr p bm S ∧ Filled n k S) ∧ Below w.heap.size w wr) (fun i _ => n - (intOf i).toNat)
    case atStart => exact ⟨0, rfl, Nat.zero_le _, ⟨_, s3, f3⟩, b3⟩
    case round =>
      clear s3 f3 b3
      obtain ⟨k, rfl, hk, ⟨S, s, f⟩, b⟩ := hrel
      have hops := f.ops
      have hlen := f.len
      have hcap := f.cap
      by_cases hlt : k < n
      · go_wp2_with fail
        refine (alloc_ok s (by omega) f.fails (by omega)).mono ?_
        rintro e w4 ⟨id, blk, hfr, rfl, s4, hblk, t4⟩
        obtain rfl : id = k := f.free hfr
        have b4 : Below w.heap.size w w4 := b.trans (t4.toBelow b.size (fun k h => by rcases h with rfl | rfl <;> assumption))
        have f4 := f.next (blk := blk)
        clear b s f hops hlen hcap hfr hblk t4
        go_wp2_with fail
        go_roundw
        case rel => exact ⟨id + 1, by go_num, by omega, ⟨_, s4, f4⟩, b4⟩
        case measure => simp [intOf]; omega
      · obtain rfl : k = n := by omega
        have fh := f.held
        go_wp2_with fail
        refine (alloc_full s (by omega) f.fails (by omega)).mono ?_
        rintro e w4 ⟨rfl, s4, t4⟩
        have b4 : Below w.heap.size w w4 := b.trans (t4.toBelow b.size (fun k h => by rw [h]; exact hp'))
        have hl4 : S.did.m.length = k := hlen
        clear b s f hops hcap t4 hlt hlen
        go_wp2_with fail
        refine (used_any s4).mono ?_
        rintro e w5 ⟨rfl, rfl⟩
        have HL4 := Lib.hid hl4
        have hne : ((S.did.m.length : Int) != (k : Int)) = false := by rw [hl4]; simp
        clear hl4
        go_wp2_with fail
        go_loopw [13] (fun i wr => ∃ j : Nat, i = .int .i64 j ∧ j ≤ len1 ∧ (∃ S, StoreAt wr p bm S ∧ Held k (-1) (k + 1 + j) S) ∧ Below w.heap.size w wr) (fun i _ => len1 - (intOf i).toNat)
        case atStart => exact ⟨0, rfl, Nat.zero_le _, ⟨_, s4, fh⟩, b4⟩
        case round =>
          clear s4 fh b4 hne HL4
          obtain ⟨j, rfl, hj, ⟨S, s, f⟩, b⟩ := hrel
          by_cases hlt : j < len1
          · obtain ⟨g, off, rfl, hg, hcell, hz0, hz1⟩ := IsRow.at W1.out b hlt
            generalize z1.getD j 0 = z at *
            by_cases hin : z ∈ S.keys
            · obtain ⟨y, hy, hyz⟩ := List.mem_map.1 hin
              have ff := f.give z
              have FIN := Lib.hid (free_there s (by have := f.ops; omega) z hy hyz)
              have FF := Lib.hid f.fails
              clear hin hy hyz s
              go_wp2_with fail
              refine FIN.out.mono ?_
              rintro e w6 ⟨he, s6, t6⟩
              rw [FF.out] at he s6
              subst he
              have b6 : Below w.heap.size w w6 := b.trans (t6.toBelow b.size (fun k h => by rcases h with rfl | rfl <;> assumption))
              clear b t6
              go_wp2_with fail
              go_roundw
              case rel => exact ⟨j + 1, by go_num, by omega, ⟨_, s6, ff⟩, b6⟩
              case measure => simp [intOf]; omega
            · have FIN := Lib.hid (free_absent s z hin)
              clear hin
              go_wp2_with fail
              refine FIN.out.mono ?_
              rintro e w6 ⟨rfl, rfl⟩
              go_wp2_with fail
              go_roundw
              case rel => exact ⟨j + 1, by go_num, by omega, ⟨_, s, f.more (by omega)⟩, b⟩
              case measure => simp [intOf]; omega
          · obtain rfl : j = len1 := by omega
            go_wp2_with fail
            go_loopg [14] 100 (fun g i wr => ∃ last : Int, i = .int .i64 last ∧ (∃ S, StoreAt wr p bm S ∧ Held k last (1000 - g) S ∧ k - S.m.length ≤ g ∧ g ≤ 100) ∧ Below w.heap.size w wr)
            case atStart => exact ⟨-1, rfl, ⟨_, s, f.more (by omega), by omega, by omega⟩, b⟩
            case round =>
              clear f s b hlt hj
              obtain ⟨last, rfl, ⟨S, s, f, hg1, hg2⟩, b⟩ := hrel
              have hops := f.ops
              have hcap := f.cap
              go_wp2_with fail
              refine (used_any s).mono ?_
              rintro e w7 ⟨rfl, rfl⟩
              by_cases hfull : S.m.length < k
              · go_wp2_with fail
                refine (alloc_ok s (by omega) f.fails (by omega)).mono ?_
                rintro e w8 ⟨id, blk, hfr, rfl, s8, hblk, t8⟩
                have b8 : Below w.heap.size w w8 := b.trans (t8.toBelow b.size (fun k h => by rcases h with rfl | rfl <;> assumption))
                have hid := f.id hfull hfr
                have f8 := f.take (blk := blk) hfull hfr
                have hl8 : (S.did.took id blk).m.length = S.m.length + 1 := by simp [St.took, St.did]
                have HL8 := Lib.hid hl8
                clear b s f hops hcap hfr t8 hblk hl8
                go_wp2_with fail
                go_roundg (gk - 1)
                case measure => omega
                case rel => exact ⟨id, rfl, ⟨_, s8, f8.more (by omega), by rw [HL8.out]; omega, by omega⟩, b8⟩
              · go_wp2_with fail
                refine (peak_any s).mono ?_
                rintro e w8 ⟨rfl, rfl⟩
                have hpk : ((S.peak : Int) == (k : Int)) = true := by rw [f.peak]; simp
                go_wp2_with fail
                go_ret
                exact ⟨rfl, b⟩
end Go.Proofs.Ytaeicondmiikaaa
