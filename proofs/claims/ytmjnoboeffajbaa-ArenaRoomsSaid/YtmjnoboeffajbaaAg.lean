/- What giving a room of an arena back does. -/
import Derived.Test.YtmjnoboeffajbaaAf
namespace Go.Proofs.Ytmjnoboeffajbaa
open Go.RowKit Go.Maps
set_option linter.unusedSimpArgs false
set_option linter.unusedVariables false

variable {w : World} {p : Nat} {A : Ar} {R : Rp}

theorem give_range (h : ArAt w p A R) (x : Int) (hx : A.taken x = Option.none) :
    Calls Try.prog 21 #[.pointer (some ⟨p, 0, Option.none⟩), .int .i64 x] w fun e w' => e = .returned (.int .i64 2) ∧ w = w' := by
  have c3 := h.c3
  have hlk := run_lookup_kv_ok (P := Try.prog) (t := 91) Try.underlying91 Try.underlying3 zero3 h.ht x
  rw [h.ta x, hx] at hlk
  simp only [Option.map_none, Option.getD_none, Option.isSome_none] at hlk
  clear hx
  go_enter Try.func21, Try.ntmps21
  go_wp2
  go_ret
  exact ⟨rfl, rfl⟩

theorem ArAt.untaken {w w' : World} (h : ArAt w p A R) (x : Int) (m : MapIs w' R.tm (mdel R.tl x)) (t : Touch (· = R.tm) w w') :
    ArAt w' p { A with taken := setAt A.taken x Option.none } { R with tl := mdel R.tl x } := by
  refine ⟨t.heap (fun e => h.pt e) h.hp, t.heap (fun e => h.bt e) h.hb, h.hbl, m, t.map (fun e => h.htg e.symm) h.hg, h.htg, ?_, h.ro, fun x hx => ownsRow_touch t (h.own x hx) (fun k hk e => h.rt hx (by rw [hk, e])),
    mdel_nodup _ _ h.nd, h.gnd, h.bnd, h.hn, h.hh, ?_, h.inR⟩
  · intro y
    rw [mget_del _ _ _ h.nd]
    simp only [setAt]
    split
    · rfl
    · exact h.ta y
  · intro y d hy
    simp only [setAt] at hy
    split at hy
    · cases hy
    · exact h.inT y d hy

/-- Behind a room of c bytes that was given back. -/
def Ar.gave (A : Ar) (x c : Int) : Ar := { A with taken := setAt A.taken x Option.none, rooms := setAt A.rooms c (A.rooms c ++ [x]), live := A.live - c }

def GivePost (p : Nat) (R : Rp) (A' : Ar) (w : World) (e : Ending) (w' : World) : Prop :=
  ∃ R', e = .returned (.int .i64 0) ∧ ArAt w' p A' R' ∧ Step w w' p R R'

/-- What storing a room among the rooms of its class comes to, in memory. -/
theorem give_mem {w1 : World} (a1 : ArAt w1 p A R) (x : Int) (c : Int) (hlen : (A.rooms c).length ≤ 1000000) (hin : 0 ≤ x ∧ 16 ≤ c ∧ x + c ≤ A.height) :
    ∃ v v' w2 w3 R3, (Instr.lookup 92 (.map (some R.gm)) (.int .i64 c) false).run Try.prog w1.drew = .ok v w1.drew ∧
      (Instr.lookup 92 (.map (some R.gm)) (.int .i64 c) false).run Try.prog (w1.alloc (.cells #[.int .i64 x] 3)).drew = .ok v (w1.alloc (.cells #[.int .i64 x] 3)).drew ∧
      (Builtin.append_ #[28, 28] 28 #[v, .slice (some ⟨w1.heap.size, 0, Option.none⟩) 1 1]).run Try.prog (w1.alloc (.cells #[.int .i64 x] 3)).drew = .ok v' w2 ∧
      w1.cell? ⟨p, 4, Option.none⟩ = some (.map (some R.gm)) ∧ (w1.alloc (.cells #[.int .i64 x] 3)).cell? ⟨p, 4, Option.none⟩ = some (.map (some R.gm)) ∧ w2.cell? ⟨p, 4, Option.none⟩ = some (.map (some R.gm)) ∧
      (Instr.mapUpdate 92 (.map (some R.gm)) (.int .i64 c) v').run Try.prog w2 = .ok () w3 ∧
      ArAt w3 p { A with rooms := setAt A.rooms c (A.rooms c ++ [x]) } R3 ∧ Step w1 w3 p R R3 := by
  obtain ⟨v, hm, hv, how, hgv⟩ := a1.given c
  have hlk1 := run_lookup_kv (P := Try.prog) (t := 92) (w := w1.drew) Try.underlying92 Try.underlying3 zero28 a1.hg c
  rw [hm, hv] at hlk1
  have aB : ArAt (w1.alloc (.cells #[.int .i64 x] 3)) p A R := a1.kept (Touch.alloc (fun _ => False) _ _) (fun _ _ h => h)
  have hlkB := run_lookup_kv (P := Try.prog) (t := 92) (w := (w1.alloc (.cells #[.int .i64 x] 3)).drew) Try.underlying92 Try.underlying3 zero28 aB.hg c
  rw [hm, hv] at hlkB
  obtain ⟨i, hi, hz, hs, hby⟩ := info_parts info3
  have howB : (w1.alloc (.cells #[.int .i64 x] 3)).drew.ownsRow 0 3 1 v (A.rooms c).length (ints (A.rooms c)) := how.alloc _
  have hcellB : ∀ j u, [Value.int .i64 x][j]? = some u → (w1.alloc (.cells #[.int .i64 x] 3)).drew.cell? ((⟨w1.heap.size, 0, Option.none⟩ : Addr).add j) = some u := by
    intro j u hu
    match j, hu with
    | 0, hu =>
      simp only [List.getElem?_cons_zero, Option.some.injEq] at hu; subst hu
      rw [Addr.add_lit]
      exact cell_of_row (w1.alloc (.cells #[.int .i64 x] 3)).drew _ _ _ _ _ (MapKept.heap_alloc w1 _).1
    | j + 1, hu => simp at hu
  obtain ⟨v', w2, hap, ho2, hg2, hv2⟩ := run_append_own (P := Try.prog) ((w1.alloc (.cells #[.int .i64 x] 3)).drew) 0 28 28 3 i (.int .i64 0) 1 8 Try.underlying28 hi hz hs hby rfl (by decide) v (A.rooms c).length (ints (A.rooms c)) howB
    ⟨w1.heap.size, 0, Option.none⟩ 1 1 [.int .i64 x] rfl hcellB (by intro u hu; simp only [List.mem_singleton] at hu; subst hu; rfl) (by simp only [maxLen]; omega) (by omega) (by simp)
  have tB : Touch (fun _ => False) w1 ((w1.alloc (.cells #[.int .i64 x] 3)).drew) := (Touch.alloc _ _ _).trans (Touch.drew _ _)
  have t2 : Touch (fun k => v.ownBlock = some k) ((w1.alloc (.cells #[.int .i64 x] 3)).drew) w2 := Touch.grown hg2 (fun k hk _ => hk.symm ▸ rfl)
  have c42 : w2.cell? ⟨p, 4, Option.none⟩ = some (.map (some R.gm)) := t2.cell aB.c4 (fun e => by obtain ⟨xs, hxs, hmem⟩ := hgv _ e; exact a1.rp hmem e)
  have mg2 : MapIs w2 R.gm R.gkv := t2.map (fun e => by obtain ⟨xs, hxs, hmem⟩ := hgv _ e; exact a1.rg hmem e) aB.hg
  obtain ⟨w3, hu3, m3, t3, z3⟩ := run_update_kv (P := Try.prog) (w := w2) Try.underlying92 Try.underlying3 (m := R.gkv) (b := R.gm) mg2 c v'
  have tt : Touch (fun k => k = R.gm ∨ ∃ v xs, gget R.gl c = some (v, xs) ∧ v.ownBlock = some k) w1 w3 :=
    (tB.trans' t2 (H := fun k => ∃ v xs, gget R.gl c = some (v, xs) ∧ v.ownBlock = some k) (fun _ _ h => h.elim) (fun k _ hk => by obtain ⟨xs, hxs, _⟩ := hgv k hk; exact ⟨v, xs, hxs, hk⟩)).trans' t3 (fun _ _ h => .inr h) (fun _ _ h => .inl h)
  have eints : ints (A.rooms c) ++ [.int .i64 x] = ints (A.rooms c ++ [x]) := by simp [ints]
  rw [eints] at ho2
  have elen : (A.rooms c).length + 1 = (A.rooms c ++ [x]).length := by simp
  rw [elen] at ho2
  have hgm : ∀ k, v'.ownBlock = some k → ¬ k = R.gm := by
    intro k hk e
    obtain ⟨cur, hc⟩ := ArAt.own_heap (x := (c, v', A.rooms c ++ [x])) ho2 hk
    obtain ⟨es, cl, hb, _⟩ := mg2
    rw [e, hb] at hc; cases hc
  have ho3 : w3.ownsRow 0 3 1 v' (A.rooms c ++ [x]).length (ints (A.rooms c ++ [x])) := ownsRow_touch t3 ho2 hgm
  have hnb := append_block (P := Try.prog) ((w1.alloc (.cells #[.int .i64 x] 3)).drew) 0 28 28 3 i (.int .i64 0) 1 8 Try.underlying28 hi hz hs hby rfl (by decide) v (A.rooms c).length (ints (A.rooms c)) howB
    ⟨w1.heap.size, 0, Option.none⟩ 1 1 [.int .i64 x] rfl hcellB (by intro u hu; simp only [List.mem_singleton] at hu; subst hu; rfl) (by simp only [maxLen]; omega) (by omega) hap
  have hzB : ((w1.alloc (.cells #[.int .i64 x] 3)).drew).heap.size = w1.heap.size + 1 := by simp
  have hfar : ∀ z ∈ R.gl, z.1 ≠ c → Far v' z.2.1 := by
    intro z hz hne k hk hkz
    rcases hnb k hk with h1 | h1
    · obtain ⟨xs, hxs, hmem⟩ := hgv k h1
      exact pair_far a1.bnd hmem hz (fun e => hne (by rw [← e])) k h1 hkz
    · have := a1.ltr hz hkz
      omega
  have a3 := a1.regiven c v' (A.rooms c ++ [x]) m3 tt ho3 hfar (by
    intro y hy
    rcases List.mem_append.1 hy with hy | hy
    · exact a1.inR c y hy
    · simp only [List.mem_singleton] at hy; subst hy; exact hin)
  have s3 : Step w1 w3 p R { R with gl := gput R.gl c v' (A.rooms c ++ [x]) } := step_regiven a1.gnd tt (fun k hk => by
    rcases hnb k hk with h1 | h1
    · obtain ⟨xs, hxs, hmem⟩ := hgv k h1
      exact .inl (.inr (.inr (.inr (.inr ⟨_, hmem, h1⟩))))
    · exact .inr (by omega))
  exact ⟨v, v', w2, w3, _, hlk1, hlkB, hap, a1.c4, aB.c4, c42, hu3, a3, s3⟩

set_option maxHeartbeats 1000000 in
theorem give_ok (h : ArAt w p A R) (x c : Int) (hx : A.taken x = some c) (hlen : (A.rooms c).length ≤ 1000000) (hl1 : -1099511627776 ≤ A.live) (hl2 : A.live ≤ 1099511627776) :
    Calls Try.prog 21 #[.pointer (some ⟨p, 0, Option.none⟩), .int .i64 x] w (GivePost p R (A.gave x c) w) := by
  have c3 := h.c3
  have hlk := run_lookup_kv_ok (P := Try.prog) (t := 91) Try.underlying91 Try.underlying3 zero3 h.ht x
  rw [h.ta x, hx] at hlk
  simp only [Option.map_some, Option.getD_some, Option.isSome_some] at hlk
  have hb := h.inT x c hx
  have hh := h.hh
  have hn := h.hn
  obtain ⟨w1, hu, m1, t1, z1⟩ := run_delete_kv (P := Try.prog) (w := w) Try.underlying91 Try.underlying3 0 3 h.ht x
  have a1 := h.untaken x m1 t1
  have st1 : Step w w1 p R { R with tl := mdel R.tl x } := ⟨t1.mono (fun k _ hk => .inr (.inr (.inl hk))), fun k hk => .inl hk⟩
  obtain ⟨v, v', w2, w3, R3, hlk1, hlkB, hap, c41, c4B, c42, hu3, a3, st3⟩ := give_mem a1 x c hlen hb
  have HAP := Lib.hid hap
  have st := st1.trans st3
  have e2 : w3.cell? ⟨p, 2, Option.none⟩ = some (.int .i64 A.live) := a3.c2
  have f2 := a3.fz 2
  have FIN := Lib.hid (show GivePost p R (A.gave x c) w (.returned (.int .i64 0)) (w3.setCell ⟨p, 2, Option.none⟩ (.int .i64 (A.live - c))) from
    ⟨_, rfl, a3.stored 2 _ (by simp [Ar.cells, Ar.gave]) rfl rfl rfl rfl (Nat.le_refl _) a3.hh, st.trans (Step.of _ (Touch.setCell (F := fp _ p) _ (p := ⟨p, 2, Option.none⟩) (.inl rfl) _))⟩)
  clear m1 t1 z1 a1 st1 st3 st a3 hx h hap hlen
  go_enter Try.func21, Try.ntmps21
  go_wp2
  go_region_law (refine step_append_run rfl (.tmp 35) (.tmp 37) 28 28 rfl (by simp [Act.eval, Act.put]) (by simp [Act.eval, Act.put]) HAP.out ?_)
  all_goals
    go_wp2
    go_ret
    exact FIN.out
end Go.Proofs.Ytmjnoboeffajbaa
