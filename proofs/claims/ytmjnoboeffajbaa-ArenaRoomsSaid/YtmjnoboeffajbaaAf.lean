/- What taking a room of an arena does. -/
import Derived.Test.YtmjnoboeffajbaaAe
namespace Go.Proofs.Ytmjnoboeffajbaa
open Go.RowKit Go.Maps
set_option linter.unusedSimpArgs false
set_option linter.unusedVariables false

variable {w : World} {p : Nat} {A : Ar} {R : Rp}

/-- Bytes laid over others, from a place on. -/
def over (b : List Int) (o : Nat) (xs : List Int) : List Int := b.take o ++ (xs ++ b.drop (o + xs.length))
theorem length_over {b : List Int} {o : Nat} {xs : List Int} (h : o + xs.length ≤ b.length) : (over b o xs).length = b.length := by
  simp [over]; omega

theorem Touch.setRow (w : World) (g : Nat) (cs : Array Value) : Touch (· = g) w (w.setRow g cs) :=
  ⟨rfl, rfl, rfl, by simp [World.setRow], fun k _ hk => setRow_other w g k cs hk⟩

/-- Its bytes are written. -/
theorem ArAt.wrote (h : ArAt w p A R) (b' : List Int) (hb : b'.length = A.n) : ArAt (w.setRow R.buf (bytesOf b')) p { A with b := b' } R := by
  have t := Touch.setRow w R.buf (bytesOf b')
  exact ⟨t.heap (fun e => h.pb e) h.hp, setRow_heap w R.buf _ _ 5 (0, 0) h.hb, hb, t.map (fun e => h.bt e.symm) h.ht, t.map (fun e => h.bg e.symm) h.hg, h.htg, h.ta, h.ro,
    fun x hx => ownsRow_touch t (h.own x hx) (fun k hk e => h.rb hx (by rw [hk, e])), h.nd, h.gnd, h.bnd, h.hn, h.hh, h.inT, h.inR⟩

theorem run_store_bytes (g o : Nat) (b xs : List Int) (w : World) (hg : w.heap[g]? = some (.cells (bytesOf b) 5 (0, 0))) (h : o + xs.length ≤ b.length) :
    (storeCells ⟨g, o, Option.none⟩ (vals xs)).run Try.prog w = .ok () (w.setRow g (bytesOf (over b o xs))) := by
  have := run_storeCells_at Try.prog g o 5 (vals xs) 0 (bytesOf b) w hg (by simp [vals, bytesOf]; omega) (by intro u hu; simp only [vals, List.mem_map] at hu; obtain ⟨z, _, rfl⟩ := hu; rfl)
  rw [this]
  congr 2
  simp [bytesOf, over, vals, List.map_take, List.map_drop]

theorem run_clear22 (g o n c : Nat) (b : List Int) (w : World) (hg : w.heap[g]? = some (.cells (bytesOf b) 5 (0, 0))) (h : o + n ≤ b.length) (hn : 0 < n) (ty : TypeId) :
    (Builtin.clear_ #[22] ty #[.slice (some ⟨g, o, Option.none⟩) n c]).run Try.prog w = .ok (.tuple #[]) (w.setRow g (bytesOf (over b o (zeros n)))) := by
  have hst := run_store_bytes g o b (zeros n) w hg (by simpa [zeros] using h)
  have hz : (Builtin.zeroCells #[.int .u8 0] n).toList = vals (zeros n) := by
    simp [Builtin.zeroCells, vals, zeros, Nat.mod_one]
    apply List.ext_getElem?
    intro i
    simp
    by_cases hi : i < n <;> simp [hi]
  obtain ⟨m, rfl⟩ : ∃ m, n = m + 1 := ⟨n - 1, by omega⟩
  have hzz : ∀ w, (zeroValue 5).run Try.prog w = .ok (.int .u8 0) w := fun w => by kernel_rfl
  unfold Builtin.clear_
  simp [Sem.run_bind, run_underlying Try.underlying22, Result.andThen, hzz, Value.cells, hz, hst]

/-- Behind a room that was taken at a place. -/
def Ar.took (A : Ar) (x : Nat) (c : Nat) : Ar := { A with b := over A.b x (zeros c), taken := setAt A.taken x (some (c : Int)), live := A.live + c }

theorem ArAt.taken' {w w' : World} (h : ArAt w p A R) (x c : Nat) (m : MapIs w' R.tm (mput R.tl x (.int .i64 c))) (t : Touch (· = R.tm) w w') (hin : 16 ≤ c ∧ x + c ≤ A.height) :
    ArAt w' p { A with taken := setAt A.taken x (some (c : Int)) } { R with tl := mput R.tl x (.int .i64 c) } := by
  refine ⟨t.heap (fun e => h.pt e) h.hp, t.heap (fun e => h.bt e) h.hb, h.hbl, m, t.map (fun e => h.htg e.symm) h.hg, h.htg, ?_, h.ro, fun x hx => ownsRow_touch t (h.own x hx) (fun k hk e => h.rt hx (by rw [hk, e])),
    mput_nodup _ _ _ h.nd, h.gnd, h.bnd, h.hn, h.hh, ?_, h.inR⟩
  · intro y
    rw [mget_put]
    simp only [setAt]
    split
    · rfl
    · exact h.ta y
  · intro y d hy
    simp only [setAt] at hy
    split at hy
    · rename_i e; subst e; cases hy; show _ ∧ _ ∧ _ ≤ (A.height : Int); omega
    · exact h.inT y d hy

def TakePost (p : Nat) (R : Rp) (x : Nat) (A' : Ar) (w : World) (e : Ending) (w' : World) : Prop :=
  ∃ R', e = .returned (.tuple #[.int .i64 x, .int .i64 0]) ∧ ArAt w' p A' R' ∧ Step w w' p R R'

set_option maxHeartbeats 1000000 in
theorem take_from (h : ArAt w p A R) (n : Int) (h0 : 0 ≤ n) (h1 : n ≤ 4194304) (x : Nat) (A1 : Ar) (hpl : Calls Try.prog 52 #[.pointer (some ⟨p, 0, Option.none⟩), .int .i64 (cls n)] w (PlacePost p A R x A1 w))
    (hx : x + cls n ≤ A1.height) (hlive : A1.live = A.live) (hl1 : -1099511627776 ≤ A.live) (hl2 : A.live ≤ 1099511627776) :
    Calls Try.prog 18 #[.pointer (some ⟨p, 0, Option.none⟩), .int .i64 n] w (TakePost p R x (A1.took x (cls n)) w) := by
  have HPL := Lib.hid hpl
  have hc1 := cls_ge n
  have hc2 := cls_le h1
  clear hpl
  go_enter Try.func18, Try.ntmps18
  go_wp2_with fail
  refine (class_any n h1 w).mono ?_
  rintro e w1 ⟨rfl, rfl⟩
  generalize cls n = c at *
  go_wp2_with fail
  refine HPL.out.mono ?_
  rintro e w2 ⟨R2, rfl, a2, st2⟩
  have hh2 := a2.hh
  have hn2 := a2.hn
  have d0 := a2.c0
  have hcl := run_clear22 R2.buf x c (A1.n - x) A1.b w2 a2.hb (by rw [a2.hbl]; omega) (by omega)
  have a3 := a2.wrote (over A1.b x (zeros c)) (by rw [length_over (by rw [a2.hbl]; simp [zeros]; omega), a2.hbl])
  have st3 : Step w (w2.setRow R2.buf (bytesOf (over A1.b x (zeros c)))) p R R2 := st2.trans (Step.of R2 ((Touch.setRow w2 _ _).mono (fun k _ hk => .inr (.inl hk))))
  clear a2 st2
  generalize hw3 : w2.setRow R2.buf (bytesOf (over A1.b x (zeros c))) = w3 at *
  clear hw3
  have d3 := a3.c3
  obtain ⟨w4, hu, m4, t4, z4⟩ := run_update_kv (P := Try.prog) (w := w3) Try.underlying91 Try.underlying3 (m := R2.tl) (b := R2.tm) a3.ht x (.int .i64 c)
  have a4 := a3.taken' x c m4 t4 ⟨hc1, hx⟩
  have st4 : Step w w4 p R { R2 with tl := mput R2.tl x (.int .i64 c) } := st3.trans ⟨t4.mono (fun k _ hk => .inr (.inr (.inl hk))), fun k hk => .inl hk⟩
  clear a3 st3 m4 t4 z4
  have e2 := a4.c2
  have f2 := a4.fz 2
  simp only [hlive] at e2
  have FIN := Lib.hid (show TakePost p R x (A1.took x c) w (.returned (.tuple #[.int .i64 x, .int .i64 0])) (w4.setCell ⟨p, 2, Option.none⟩ (.int .i64 (A.live + c))) from
    ⟨_, rfl, a4.stored 2 _ (by simp [Ar.cells, Ar.took, hlive]) rfl rfl rfl rfl (Nat.le_refl _) a4.hh, st4.trans (Step.of _ (Touch.setCell (F := fp _ p) _ (p := ⟨p, 2, Option.none⟩) (.inl rfl) _))⟩)
  clear a4 st4 hlive
  go_wp2
  go_ret2
  exact FIN.out

/-- A room of the class was given back: the last one is had again. -/
theorem take_again (h : ArAt w p A R) (n : Int) (h0 : 0 ≤ n) (h1 : n ≤ 4194304) (x : Nat) (xs : List Int) (hr : A.rooms (cls n) = xs ++ [(x : Int)]) (hl1 : -1099511627776 ≤ A.live) (hl2 : A.live ≤ 1099511627776) :
    Calls Try.prog 18 #[.pointer (some ⟨p, 0, Option.none⟩), .int .i64 n] w (TakePost p R x ({ A with rooms := setAt A.rooms (cls n) xs }.took x (cls n)) w) :=
  take_from h n h0 h1 x _ (place_again h _ xs x hr) (by
    have := h.inR (cls n) x (by rw [hr]; simp)
    show _ ≤ A.height
    omega) rfl hl1 hl2

/-- No room of the class was given back, and there is place: it is cut off. -/
theorem take_fresh (h : ArAt w p A R) (n : Int) (h0 : 0 ≤ n) (h1 : n ≤ 4194304) (hr : A.rooms (cls n) = []) (hc : A.height + cls n ≤ A.n) (hl1 : -1099511627776 ≤ A.live) (hl2 : A.live ≤ 1099511627776) :
    Calls Try.prog 18 #[.pointer (some ⟨p, 0, Option.none⟩), .int .i64 n] w (TakePost p R A.height ({ A with height := A.height + cls n }.took A.height (cls n)) w) :=
  take_from h n h0 h1 A.height _ (place_fresh h _ hr hc (cls_le h1)) (Nat.le_refl _) rfl hl1 hl2

set_option maxHeartbeats 400000 in
theorem take_full (h : ArAt w p A R) (n : Int) (h0 : 0 ≤ n) (h1 : n ≤ 4194304) (hr : A.rooms (cls n) = []) (hc : A.n < A.height + cls n) :
    Calls Try.prog 18 #[.pointer (some ⟨p, 0, Option.none⟩), .int .i64 n] w fun e w' => e = .returned (.tuple #[.int .i64 0, .int .i64 8]) ∧ ∃ n, w' = w.drewN n := by
  have HPL := Lib.hid (place_full h (cls n) hr hc (cls_le h1))
  clear hr hc
  go_enter Try.func18, Try.ntmps18
  go_wp2_with fail
  refine (class_any n h1 w).mono ?_
  rintro e w1 ⟨rfl, rfl⟩
  go_wp2_with fail
  refine HPL.out.mono ?_
  rintro e w2 ⟨rfl, nq, rfl⟩
  go_wp2
  go_ret2
  exact ⟨rfl, nq, rfl⟩

set_option maxHeartbeats 400000 in
theorem take_arg (n : Int) (h : n < 0 ∨ 4194304 < n) (w : World) (a : Addr) :
    Calls Try.prog 18 #[.pointer (some a), .int .i64 n] w fun e w' => e = .returned (.tuple #[.int .i64 0, .int .i64 1]) ∧ w = w' := by
  by_cases h0 : n < 0
  · go_enter Try.func18, Try.ntmps18
    go_wp2
    go_ret2
    exact ⟨rfl, rfl⟩
  · have h1 : 4194304 < n := by omega
    go_enter Try.func18, Try.ntmps18
    go_wp2
    go_ret2
    exact ⟨rfl, rfl⟩
end Go.Proofs.Ytmjnoboeffajbaa
