/- A new stack in an arena with place; the document's example; what is pushed is popped: the walk. -/
import Derived.Test.YtmjnoboeffajbaaSe
namespace Go.Proofs.Ytmjnoboeffajbaa
open Go.RowKit Go.Maps
set_option linter.unusedSimpArgs false
set_option linter.unusedVariables false

variable {w w' : World} {q p : Nat} {S : Sk} {A : Ar} {R : Rp} {m : List Nat}

def SMade (p : Nat) (R : Rp) (A' : Ar) (S : Sk) (w : World) (e : Ending) (w' : World) : Prop :=
  ∃ q R', e = .returned (.tuple #[.pointer (some ⟨q, 0, Option.none⟩), .int .i64 0]) ∧ SOn w' q p S A' R' [] ∧ Step w w' p R R' ∧ w.heap.size ≤ q

theorem snew (a : ArAt w p A R) (cells : Nat) (h1 : 1 ≤ cells) (h2 : cells ≤ 65536) (c : Nat) (hc : cls (8 * (cells : Int)) = c) (hr : A.rooms c = []) (hp : A.height + c ≤ A.n) (hb : Good A.b) (hl1 : -1099511627776 ≤ A.live) (hl2 : A.live ≤ 1099511627776) :
    Calls Try.prog 31 #[.pointer (some ⟨p, 0, Option.none⟩), .int .i64 cells] w (SMade p R ({ A with height := A.height + c }.took A.height c) ⟨A.height, cells, 0, false⟩ w) := by
  subst hc
  have he : (8 * (cells : Int)) ≤ cls (8 * (cells : Int)) := cls_enough (by omega)
  have hn := a.hn
  refine (snew_from cells A.height h1 h2 (by omega) _ (take_fresh a _ (by omega) (by omega) hr hp hl1 hl2)).mono ?_
  rintro e w' ⟨q, R', rfl, s, a', st, hq⟩
  refine ⟨q, R', rfl, ⟨s, a', rfl, good_over hb (good_zeros _), ?_, Has.empty _ _ rfl⟩, st, hq⟩
  show A.height + 8 * cells ≤ A.n
  omega

theorem SOn.place (h : SOn w q p S A R m) {B : Nat} (F : From B p R) (hq : B ≤ q) {w' : World} (t : Touch (fun k => k = q ∨ k = R.buf) w w') (hB : B ≤ w.heap.size) : Below B w w' :=
  t.toBelow hB (fun k hk => by
    rcases hk with rfl | rfl
    · exact hq
    · exact F _ (.inr (.inl rfl)))

theorem cls2000 : cls 2000 = 2048 := by decide
theorem cls40 : cls 40 = 64 := by decide
theorem cls512 : cls 512 = 512 := by decide

set_option maxRecDepth 100000 in
set_option maxHeartbeats 1000000 in
theorem sawake_any (w : World) : Calls Try.prog 30 #[] w fun e w' => e = .returned (.bool true) ∧ Below w.heap.size w w' := by
  go_enter Try.func30, Try.ntmps30
  go_wp2_with fail
  refine (new_ok 1000 w (by omega)).mono ?_
  rintro e w1 ⟨p, R1, rfl, s1, f1, t1⟩
  have b1 : Below w.heap.size w w1 := t1.toBelow (Nat.le_refl _) (fun _ h => h.elim)
  have F1 : From w.heap.size p R1 := f1
  have MK := Lib.hid (snew s1 5 (by omega) (by omega) 64 cls40 rfl (by decide) (good_zeros _) (by decide) (by decide))
  clear t1 f1 s1
  go_wp2_with fail
  refine MK.out.mono ?_
  rintro e w2 ⟨q, R2, rfl, on2, st2, hq⟩
  have F2 := F1.step st2 b1.size
  have b2 := b1.trans (st2.below F1 b1.size)
  have hq2 : w.heap.size ≤ q := Nat.le_trans b1.size hq
  clear st2 MK F1 b1 hq
  have hS : ∃ S2 A2, S2.cells = 5 ∧ SOn w2 q p S2 A2 R2 [] := ⟨_, _, rfl, on2⟩
  clear on2
  obtain ⟨S2, A2, hc2, on2⟩ := hS
  have tA : Touch (fun _ => False) w2 (w2.alloc (.cells #[.int .u64 1, .int .u64 2, .int .u64 3] 47)) := Touch.alloc _ _ _
  have on3 := on2.fresh tA
  have hsrc : Src (w2.alloc (.cells #[.int .u64 1, .int .u64 2, .int .u64 3] 47)) (some ⟨w2.heap.size, 0, Option.none⟩) [1, 2, 3] (fun k => k = q ∨ k = R2.buf) := by
    intro j hj
    refine ⟨w2.heap.size, 0, rfl, ?_, ?_, ?_⟩
    · rw [cell_of_row _ _ _ _ _ _ (MapKept.heap_alloc w2 _).1]
      match j, hj with
      | 0, _ => rfl
      | 1, _ => rfl
      | 2, _ => rfl
    · match j, hj with
      | 0, _ => decide
      | 1, _ => decide
      | 2, _ => decide
    · rintro (e | e)
      · have := on2.sk.ltq; omega
      · have := on2.ar.ltb; omega
  have PU := Lib.hid (spush on3 [1, 2, 3] (by simp [hc2]) (some ⟨w2.heap.size, 0, Option.none⟩) 3 hsrc)
  have b3 := b2.trans (tA.toBelow b2.size (fun _ h => h.elim))
  have hc := Lib.hid hc2
  clear hsrc on2 tA b2 hc2 on3
  go_wp2_with fail
  refine PU.out.mono ?_
  rintro e w4 ⟨S4, b', rfl, o1, o2, on4, _, _, t4⟩
  have b4 := b3.trans (t4.toBelow b3.size (fun k hk => by
    rcases hk with rfl | rfl
    · exact hq2
    · exact F2 _ (.inr (.inl rfl))))
  have UW := Lib.hid (sunwind on4 1 0 (by simp) (by simp))
  clear on4 t4 b3 PU o1 o2
  go_wp2_with fail
  refine UW.out.mono ?_
  rintro e w5 ⟨S5, b5', rfl, o1, o2, on5, _, _, t5⟩
  have b5 := b4.trans (t5.toBelow b4.size (fun k hk => by
    rcases hk with rfl | rfl
    · exact hq2
    · exact F2 _ (.inr (.inl rfl))))
  have PO := Lib.hid (spop on5 3 [] (by rfl))
  clear on5 t5 b4 UW o1 o2
  go_wp2_with fail
  refine PO.out.mono ?_
  rintro e w6 ⟨S6, b6', rfl, o1, o2, on6, _, _, t6⟩
  have b6 := b5.trans (t6.toBelow b5.size (fun k hk => by
    rcases hk with rfl | rfl
    · exact hq2
    · exact F2 _ (.inr (.inl rfl))))
  have HG := sheight_ok on6.sk on6.cl
  rw [← on6.has.len] at HG
  have HG2 := Lib.hid HG
  clear HG on6 t6 b5 PO o1 o2
  go_wp2_with fail
  refine HG2.out.mono ?_
  rintro e w7 ⟨rfl, rfl⟩
  go_wp2_with fail
  go_ret
  exact ⟨rfl, b6⟩
end Go.Proofs.Ytmjnoboeffajbaa
