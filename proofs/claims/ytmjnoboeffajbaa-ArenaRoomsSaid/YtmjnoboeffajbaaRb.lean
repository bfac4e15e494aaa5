/- ArenaRooms: an arena that is played with, beside the law's list; an action read. -/
import Derived.Test.YtmjnoboeffajbaaRa
import Derived.Test.YtmjnoboeffajbaaQb
import Derived.Test.YtmjnoboeffajbaaPc
namespace Go.Proofs.Ytmjnoboeffajbaa
open Go.RowKit Go.Maps
set_option linter.unusedSimpArgs false
set_option linter.unusedVariables false

set_option maxHeartbeats 400000 in
theorem rclass_any (n : Int) (h : n ≤ 4194304) (w : World) : Calls Try.prog 22 #[.int .i64 n] w fun e w' => e = .returned (.int .i64 (cls n)) ∧ w = w' := by
  have C0 : Hid (clsFrom 18 16 n.toNat = cls n) := rfl
  go_enter Try.func22, Try.ntmps22
  go_wp2
  go_loop [3] (fun c => ∃ cN g : Nat, c = .int .i64 cN ∧ 16 ≤ cN ∧ cN ≤ 8388608 ∧ Hid (clsFrom g cN n.toNat = cls n ∧ n.toNat ≤ cN * 2 ^ g)) (fun c => (n - intOf c).toNat)
  case atStart => exact ⟨16, 18, rfl, by omega, by omega, ⟨C0.out, by omega⟩⟩
  case round =>
    obtain ⟨c, g, rfl, hc1, hc2, hg⟩ := hrel
    by_cases hlt : (c : Int) < n
    · have h8 : (c : Int) < 8000000 := by omega
      go_wp2
      go_round
      case rel =>
        obtain ⟨h1, h2⟩ := hg.out
        cases g with
        | zero => exfalso; simp at h2; omega
        | succ g =>
          refine ⟨2 * c, g, by simp, by omega, by omega, ?_, ?_⟩
          · rw [← h1]
            show _ = if c < n.toNat then _ else _
            rw [if_pos (by omega)]
          · rw [Nat.pow_succ] at h2; rw [Nat.mul_comm 2 c, Nat.mul_assoc, Nat.mul_comm 2]; exact h2
      case measure => simp [intOf]; omega
    · go_wp2
      go_ret
      refine ⟨?_, rfl⟩
      obtain ⟨h1, h2⟩ := hg.out
      rw [clsFrom_done (by omega)] at h1
      rw [← h1]; rfl


theorem info39z : (Try.prog.info? 39).map (fun i => (i.zero, i.size, i.bytes)) = some (some (.agg #[.int .i64 0, .int .i64 0, .bool false]), 3, 24) := by kernel_rfl
@[reducible] def RE : El Rm where
  ce r := [.int .i64 r.pos, .int .i64 r.sz, .bool r.tk]
  K := 3
  t := 39
  s := 35
  bytes := 24
  z := .agg #[.int .i64 0, .int .i64 0, .bool false]
  len _ := rfl
  one x u hu := by
    simp only [List.mem_cons, List.not_mem_nil, or_false] at hu
    rcases hu with rfl | rfl | rfl <;> rfl
  pos := by decide
  us := Try.underlying35
  info := info39z
  zs := rfl
  by8 := by decide

structure RPlays (w : World) (n p : Nat) (wr : World) (A : Ar) (R : Rp) (li lr : List Rm) (a : Option Addr) (cap i : Nat) : Prop where
  ar : ArAt wr p A R
  nn : A.n = n
  F : From w.heap.size p R
  row : ERow RE w.heap.size wr (fp R p) a cap lr
  bel : Below w.heap.size w wr
  inv : RInv A li i
/-- What a call comes to: the arena turned, the law's list as it was. -/
def RTo (w : World) (n p : Nat) (wr : World) (R : Rp) (li lr : List Rm) (a : Option Addr) (cap i : Nat) (ht : Nat) (lv : Int) (v : Value) (e : Ending) (w' : World) : Prop :=
  e = .returned v ∧ ∃ A' R', RPlays w n p w' A' R' li lr a cap i ∧ A'.height = ht ∧ A'.live = lv ∧ Step wr w' p R R'
variable {w wr w' : World} {n p : Nat} {A : Ar} {R : Rp} {li lr l1 l2 : List Rm} {a : Option Addr} {cap i : Nat}
namespace RPlays
theorem ltf (h : RPlays w n p wr A R li lr a cap i) : ∀ k, fp R p k → k < wr.heap.size := fun k hk => h.ar.lt_fp hk
theorem step (h : RPlays w n p wr A R li lr a cap i) {A' : Ar} {R' : Rp} {li' : List Rm} {i' : Nat} (ar : ArAt w' p A' R') (nn : A'.n = n) (st : Step wr w' p R R') (inv : RInv A' li' i') : RPlays w n p w' A' R' li' lr a cap i' :=
  ⟨ar, nn, h.F.step st h.bel.size, ⟨ownsRow_touch st.touch h.row.own (fun k hk hf => (h.row.off k hk).2 hf), fun k hk => ⟨(h.row.off k hk).1, fun hf => (st.sub k hf).elim (h.row.off k hk).2 (fun h' => by have := (h.row.own.lt k hk).2; omega)⟩⟩, h.bel.trans (st.below h.F h.bel.size), inv⟩
theorem fresh (h : RPlays w n p wr A R li lr a cap i) (t : Touch (fun _ => False) wr w') : RPlays w n p w' A R li lr a cap i :=
  ⟨h.ar.kept t (fun _ _ h => h), h.nn, h.F, h.row.kept t (fun _ h => h.elim), h.bel.trans (t.toBelow h.bel.size (fun _ h => h.elim)), h.inv⟩
theorem rowed (h : RPlays w n p wr A R li lr a cap i) {w2 : World} {a' : Option Addr} {cap' : Nat} {l : List Rm} (r : ERow RE w.heap.size w2 (fp R p) a' cap' l) (t : Touch (fun k => w.heap.size ≤ k ∧ ¬ fp R p k) wr w2) : RPlays w n p w2 A R li l a' cap' i :=
  ⟨h.ar.kept t (fun k hk e => e.2 hk), h.nn, h.F, r, h.bel.trans (t.toBelow h.bel.size (fun k hk => hk.1)), h.inv⟩
theorem built (h : RPlays w n p wr A R li lr a cap i) {w2 : World} {a' : Option Addr} {k cap' : Nat} {l : List Rm} (hb : EBld RE wr w2 a' k cap' l) (hk : k = l.length) : RPlays w n p w2 A R li l a' cap' i :=
  ⟨(h.fresh hb.t).ar, h.nn, h.F, hb.row hk h.bel.size h.ltf, (h.fresh hb.t).bel, h.inv⟩
theorem stored {g : Nat} (h : RPlays w n p wr A R li lr (some ⟨g, 0, Option.none⟩) cap i) {j : Nat} {x : Rm} (hj : lr[j]? = some x) (b : Bool) :
    RPlays w n p (wr.setCell ⟨g, j * 3 + 2, Option.none⟩ (.bool b)) A R li (lr.set j { x with tk := b }) (some ⟨g, 0, Option.none⟩) cap i := by
  have ho := h.row.off g rfl
  have t := Touch.cell1 wr g (j * 3 + 2) (.bool b)
  have st := h.row.stored hj (f := 2) (by decide) (u := .bool b) (y := { x with tk := b }) rfl
  exact ⟨h.ar.kept t (fun k hk e => by rw [e] at hk; exact ho.2 hk), h.nn, h.F, st, h.bel.trans (t.toBelow h.bel.size (fun k hk => by rw [hk]; exact ho.1)), h.inv⟩
theorem mono (h : RPlays w n p wr A R li lr a cap i) : RPlays w n p wr A R li lr a cap (i + 1) := ⟨h.ar, h.nn, h.F, h.row, h.bel, h.inv.mono⟩
theorem lvs (h : RPlays w n p wr A R li lr a cap i) (hi : i ≤ 60) : -1099511627776 ≤ A.live ∧ A.live ≤ 1099511627776 := by have := h.inv.lv; omega

theorem again (h : RPlays w n p wr A R li lr a cap i) (hi : i ≤ 60) (x : Int) (h0 : 0 ≤ x) (h1 : x ≤ 4194304) {c k : Nat} {r : Rm} (hc : cls x = c) (hk : li[k]? = some r) (hr : freeOf c r = true) (hl : ∀ s ∈ li.drop (k + 1), freeOf c s = false) :
    Calls Try.prog 18 #[.pointer (some ⟨p, 0, Option.none⟩), .int .i64 x] wr (RTo w n p wr R (li.set k { r with tk := true }) lr a cap (i + 1) A.height (A.live + c) (.tuple #[.int .i64 r.pos, .int .i64 0])) := by
  have hc4 := cls_le h1
  have inv := h.inv
  rw [list_split hk] at inv
  obtain ⟨e1, e2⟩ := inv.again hr hl (by omega)
  have := take_again h.ar x h0 h1 r.pos _ (by rw [hc]; exact e1) (h.lvs hi).1 (h.lvs hi).2
  rw [hc] at this
  refine this.mono ?_
  rintro e w' ⟨R', rfl, a', st⟩
  rw [list_set hk]
  exact ⟨rfl, _, R', h.step a' h.nn st e2, rfl, rfl, st⟩
theorem cut (h : RPlays w n p wr A R li lr a cap i) (hi : i ≤ 60) (x : Int) (h0 : 0 ≤ x) (h1 : x ≤ 4194304) {c : Nat} (hc : cls x = c) (hk : lastK (freeOf c) li li.length < 0) (hp : A.height + c ≤ n) :
    Calls Try.prog 18 #[.pointer (some ⟨p, 0, Option.none⟩), .int .i64 x] wr (RTo w n p wr R (li ++ [⟨A.height, c, true⟩]) lr a cap (i + 1) (A.height + c) (A.live + c) (.tuple #[.int .i64 A.height, .int .i64 0])) := by
  have hc4 := cls_le h1
  have hc0 := cls_ge x
  have := take_fresh h.ar x h0 h1 (by rw [hc]; exact h.inv.norooms hk) (by rw [hc, h.nn]; exact hp) (h.lvs hi).1 (h.lvs hi).2
  rw [hc] at this
  refine this.mono ?_
  rintro e w' ⟨R', rfl, a', st⟩
  exact ⟨rfl, _, R', h.step a' h.nn st (h.inv.cut (by omega) (by omega)), rfl, rfl, st⟩
theorem full (h : RPlays w n p wr A R li lr a cap i) (x : Int) (h0 : 0 ≤ x) (h1 : x ≤ 4194304) {c : Nat} (hc : cls x = c) (hk : lastK (freeOf c) li li.length < 0) (hp : n < A.height + c) :
    Calls Try.prog 18 #[.pointer (some ⟨p, 0, Option.none⟩), .int .i64 x] wr (RTo w n p wr R li lr a cap (i + 1) A.height A.live (.tuple #[.int .i64 0, .int .i64 8])) := by
  refine (take_full h.ar x h0 h1 (by rw [hc]; exact h.inv.norooms hk) (by rw [hc, h.nn]; exact hp)).mono ?_
  rintro e w' ⟨rfl, k, rfl⟩
  exact ⟨rfl, A, R, (h.fresh (Touch.drewN _ _ _)).mono, rfl, rfl, Step.drewN _ _ _ _⟩
theorem arg (h : RPlays w n p wr A R li lr a cap i) (x : Int) (hx : x < 0 ∨ 4194304 < x) :
    Calls Try.prog 18 #[.pointer (some ⟨p, 0, Option.none⟩), .int .i64 x] wr (RTo w n p wr R li lr a cap (i + 1) A.height A.live (.tuple #[.int .i64 0, .int .i64 1])) := by
  refine (take_arg x hx wr ⟨p, 0, Option.none⟩).mono ?_
  rintro e w' ⟨rfl, rfl⟩
  exact ⟨rfl, A, R, h.mono, rfl, rfl, Step.refl _ _ _⟩
theorem give (h : RPlays w n p wr A R li lr a cap i) (hi : i ≤ 60) {k : Nat} {r : Rm} (hk : li[k]? = some r) (hr : r.tk = true) :
    Calls Try.prog 21 #[.pointer (some ⟨p, 0, Option.none⟩), .int .i64 r.pos] wr (RTo w n p wr R (li.take k ++ li.drop (k + 1) ++ [{ r with tk := false }]) lr a cap (i + 1) A.height (A.live - r.sz) (.int .i64 0)) := by
  have inv := h.inv
  rw [list_split hk] at inv
  obtain ⟨e1, e2⟩ := inv.give hr
  have hlen : (A.rooms r.sz).length ≤ 1000000 := by
    rw [h.inv.ro, List.length_map]
    have := List.length_filter_le (freeOf (r.sz : Int)) li
    have := h.inv.len
    omega
  refine (give_ok h.ar r.pos r.sz e1 hlen (h.lvs hi).1 (h.lvs hi).2).mono ?_
  rintro e w' ⟨R', rfl, a', st⟩
  exact ⟨rfl, _, R', h.step a' h.nn st e2, rfl, rfl, st⟩
theorem giveR (h : RPlays w n p wr A R li lr a cap i) (x : Int) (hk : lastK (takenAt x) li li.length < 0) :
    Calls Try.prog 21 #[.pointer (some ⟨p, 0, Option.none⟩), .int .i64 x] wr (RTo w n p wr R li lr a cap (i + 1) A.height A.live (.int .i64 2)) := by
  refine (give_range h.ar x (h.inv.none hk)).mono ?_
  rintro e w' ⟨rfl, rfl⟩
  exact ⟨rfl, A, R, h.mono, rfl, rfl, Step.refl _ _ _⟩
end RPlays
end Go.Proofs.Ytmjnoboeffajbaa
