/- BlockPlays: the rounds joined; the loop. -/
import Derived.Test.YtaeicondmiikaaaCd
import Derived.Test.YtaeicondmiikaaaCe0
import Derived.Test.YtaeicondmiikaaaCe1
import Derived.Test.YtaeicondmiikaaaCf0
import Derived.Test.YtaeicondmiikaaaCf1
import Derived.Test.YtaeicondmiikaaaCf2
import Derived.Test.YtaeicondmiikaaaCg
import Derived.Test.YtaeicondmiikaaaCh0
import Derived.Test.YtaeicondmiikaaaCh1
import Derived.Test.YtaeicondmiikaaaCh2
import Derived.Test.YtaeicondmiikaaaCi00
import Derived.Test.YtaeicondmiikaaaCi01
import Derived.Test.YtaeicondmiikaaaCi02
import Derived.Test.YtaeicondmiikaaaCi03
import Derived.Test.YtaeicondmiikaaaCi10
import Derived.Test.YtaeicondmiikaaaCi11
import Derived.Test.YtaeicondmiikaaaCi12
import Derived.Test.YtaeicondmiikaaaCi13
import Derived.Test.YtaeicondmiikaaaCk0
import Derived.Test.YtaeicondmiikaaaCk1
import Derived.Test.YtaeicondmiikaaaCk2
import Derived.Test.YtaeicondmiikaaaCl
import Derived.Test.YtaeicondmiikaaaCm
import Derived.Test.YtaeicondmiikaaaCn0
import Derived.Test.YtaeicondmiikaaaCn1
import Derived.Test.YtaeicondmiikaaaCo0
import Derived.Test.YtaeicondmiikaaaCo1
import Derived.Test.YtaeicondmiikaaaCp0
import Derived.Test.YtaeicondmiikaaaCp1
namespace Go.Proofs.Ytaeicondmiikaaa
open Go.RowKit Go.Maps
set_option linter.unusedSimpArgs false
set_option linter.unusedVariables false

theorem bkind0 {w : World} {size cap : Nat} {fail : Int} {k gl p bm : Nat} {wr : World} {u : Nat → Value} {j : Nat} {S : St} {l : List Pg} {g o len0 cap0 : Nat} {kind id xn : Int} {lg : Bool}
    (H : Brd w size cap fail k gl p bm wr u j S l g o len0 cap0 kind id xn lg) {K0 : Act → World → Prop} (hk : kind % 4 = 0) :
    Code.wp Try.prog body6 (BOut w size cap fail k gl p bm j g o len0 cap0 K0) (frame6 u) wr := by
  have hkl := H.P.kl
  rcases Int.lt_or_le fail 0 with hf0 | hf0
  · rcases Int.lt_or_le id 0 with hi0 | hi0
    · by_cases hc : S.m.length = cap
      · cases hfd : S.failed with
        | true => exact bcase_al0_0t H hf0 hi0 hfd hk hc
        | false => exact bcase_al0_0f H hf0 hi0 hfd hk hc
      · by_cases hb : S.peak < S.m.length + 1
        · cases hfd : S.failed with
          | true => exact bcase_ao0_0t1 H hf0 hi0 hfd hk hc hb
          | false => exact bcase_ao0_0f1 H hf0 hi0 hfd hk hc hb
        · cases hfd : S.failed with
          | true => exact bcase_ao0_0t0 H hf0 hi0 hfd hk hc hb
          | false => exact bcase_ao0_0f0 H hf0 hi0 hfd hk hc hb
    · rcases Int.lt_or_le id (k : Int) with hi1' | hi1
      · obtain ⟨q, hq⟩ := Int.eq_ofNat_of_zero_le hi0
        have hql : q < l.length := by rw [hkl]; omega
        obtain ⟨⟨us, v⟩, hx⟩ : ∃ x, l[q]? = some x := ⟨_, List.getElem?_eq_getElem hql⟩
        cases us with
        | false =>
          have hi0 := hq
          have hi1 := hx
          by_cases hc : S.m.length = cap
          · cases hfd : S.failed with
            | true => exact bcase_al0_2t H hf0 hi0 hi1 hfd hk hc
            | false => exact bcase_al0_2f H hf0 hi0 hi1 hfd hk hc
          · by_cases hb : S.peak < S.m.length + 1
            · cases hfd : S.failed with
              | true => exact bcase_ao0_2t1 H hf0 hi0 hi1 hfd hk hc hb
              | false => exact bcase_ao0_2f1 H hf0 hi0 hi1 hfd hk hc hb
            · cases hfd : S.failed with
              | true => exact bcase_ao0_2t0 H hf0 hi0 hi1 hfd hk hc hb
              | false => exact bcase_ao0_2f0 H hf0 hi0 hi1 hfd hk hc hb
        | true =>
          have hi0 := hq
          have hi1 := hx
          by_cases hc : S.m.length = cap
          · cases hfd : S.failed with
            | true => exact bcase_al0_3t H hf0 hi0 hi1 hfd hk hc
            | false => exact bcase_al0_3f H hf0 hi0 hi1 hfd hk hc
          · by_cases hb : S.peak < S.m.length + 1
            · cases hfd : S.failed with
              | true => exact bcase_ao0_3t1 H hf0 hi0 hi1 hfd hk hc hb
              | false => exact bcase_ao0_3f1 H hf0 hi0 hi1 hfd hk hc hb
            · cases hfd : S.failed with
              | true => exact bcase_ao0_3t0 H hf0 hi0 hi1 hfd hk hc hb
              | false => exact bcase_ao0_3f0 H hf0 hi0 hi1 hfd hk hc hb
      · by_cases hc : S.m.length = cap
        · cases hfd : S.failed with
          | true => exact bcase_al0_1t H hf0 hi0 hi1 hfd hk hc
          | false => exact bcase_al0_1f H hf0 hi0 hi1 hfd hk hc
        · by_cases hb : S.peak < S.m.length + 1
          · cases hfd : S.failed with
            | true => exact bcase_ao0_1t1 H hf0 hi0 hi1 hfd hk hc hb
            | false => exact bcase_ao0_1f1 H hf0 hi0 hi1 hfd hk hc hb
          · cases hfd : S.failed with
            | true => exact bcase_ao0_1t0 H hf0 hi0 hi1 hfd hk hc hb
            | false => exact bcase_ao0_1f0 H hf0 hi0 hi1 hfd hk hc hb
  · rcases Int.lt_or_le (S.ops : Int) fail with hf1 | hf1
    · rcases Int.lt_or_le id 0 with hi0 | hi0
      · by_cases hc : S.m.length = cap
        · cases hfd : S.failed with
          | true => exact bcase_al1_0t H hf0 hf1 hi0 hfd hk hc
          | false => exact bcase_al1_0f H hf0 hf1 hi0 hfd hk hc
        · by_cases hb : S.peak < S.m.length + 1
          · cases hfd : S.failed with
            | true => exact bcase_ao1_0t1 H hf0 hf1 hi0 hfd hk hc hb
            | false => exact bcase_ao1_0f1 H hf0 hf1 hi0 hfd hk hc hb
          · cases hfd : S.failed with
            | true => exact bcase_ao1_0t0 H hf0 hf1 hi0 hfd hk hc hb
            | false => exact bcase_ao1_0f0 H hf0 hf1 hi0 hfd hk hc hb
      · rcases Int.lt_or_le id (k : Int) with hi1' | hi1
        · obtain ⟨q, hq⟩ := Int.eq_ofNat_of_zero_le hi0
          have hql : q < l.length := by rw [hkl]; omega
          obtain ⟨⟨us, v⟩, hx⟩ : ∃ x, l[q]? = some x := ⟨_, List.getElem?_eq_getElem hql⟩
          cases us with
          | false =>
            have hi0 := hq
            have hi1 := hx
            by_cases hc : S.m.length = cap
            · cases hfd : S.failed with
              | true => exact bcase_al1_2t H hf0 hf1 hi0 hi1 hfd hk hc
              | false => exact bcase_al1_2f H hf0 hf1 hi0 hi1 hfd hk hc
            · by_cases hb : S.peak < S.m.length + 1
              · cases hfd : S.failed with
                | true => exact bcase_ao1_2t1 H hf0 hf1 hi0 hi1 hfd hk hc hb
                | false => exact bcase_ao1_2f1 H hf0 hf1 hi0 hi1 hfd hk hc hb
              · cases hfd : S.failed with
                | true => exact bcase_ao1_2t0 H hf0 hf1 hi0 hi1 hfd hk hc hb
                | false => exact bcase_ao1_2f0 H hf0 hf1 hi0 hi1 hfd hk hc hb
          | true =>
            have hi0 := hq
            have hi1 := hx
            by_cases hc : S.m.length = cap
            · cases hfd : S.failed with
              | true => exact bcase_al1_3t H hf0 hf1 hi0 hi1 hfd hk hc
              | false => exact bcase_al1_3f H hf0 hf1 hi0 hi1 hfd hk hc
            · by_cases hb : S.peak < S.m.length + 1
              · cases hfd : S.failed with
                | true => exact bcase_ao1_3t1 H hf0 hf1 hi0 hi1 hfd hk hc hb
                | false => exact bcase_ao1_3f1 H hf0 hf1 hi0 hi1 hfd hk hc hb
              · cases hfd : S.failed with
                | true => exact bcase_ao1_3t0 H hf0 hf1 hi0 hi1 hfd hk hc hb
                | false => exact bcase_ao1_3f0 H hf0 hf1 hi0 hi1 hfd hk hc hb
        · by_cases hc : S.m.length = cap
          · cases hfd : S.failed with
            | true => exact bcase_al1_1t H hf0 hf1 hi0 hi1 hfd hk hc
            | false => exact bcase_al1_1f H hf0 hf1 hi0 hi1 hfd hk hc
          · by_cases hb : S.peak < S.m.length + 1
            · cases hfd : S.failed with
              | true => exact bcase_ao1_1t1 H hf0 hf1 hi0 hi1 hfd hk hc hb
              | false => exact bcase_ao1_1f1 H hf0 hf1 hi0 hi1 hfd hk hc hb
            · cases hfd : S.failed with
              | true => exact bcase_ao1_1t0 H hf0 hf1 hi0 hi1 hfd hk hc hb
              | false => exact bcase_ao1_1f0 H hf0 hf1 hi0 hi1 hfd hk hc hb
    · rcases Int.lt_or_le id 0 with hi0 | hi0
      · cases hfd : S.failed with
        | true => exact bcase_af_0t H hf0 hf1 hi0 hfd hk
        | false => exact bcase_af_0f H hf0 hf1 hi0 hfd hk
      · rcases Int.lt_or_le id (k : Int) with hi1' | hi1
        · obtain ⟨q, hq⟩ := Int.eq_ofNat_of_zero_le hi0
          have hql : q < l.length := by rw [hkl]; omega
          obtain ⟨⟨us, v⟩, hx⟩ : ∃ x, l[q]? = some x := ⟨_, List.getElem?_eq_getElem hql⟩
          cases us with
          | false =>
            have hi0 := hq
            have hi1 := hx
            cases hfd : S.failed with
            | true => exact bcase_af_2t H hf0 hf1 hi0 hi1 hfd hk
            | false => exact bcase_af_2f H hf0 hf1 hi0 hi1 hfd hk
          | true =>
            have hi0 := hq
            have hi1 := hx
            cases hfd : S.failed with
            | true => exact bcase_af_3t H hf0 hf1 hi0 hi1 hfd hk
            | false => exact bcase_af_3f H hf0 hf1 hi0 hi1 hfd hk
        · cases hfd : S.failed with
          | true => exact bcase_af_1t H hf0 hf1 hi0 hi1 hfd hk
          | false => exact bcase_af_1f H hf0 hf1 hi0 hi1 hfd hk

theorem bkind1 {w : World} {size cap : Nat} {fail : Int} {k gl p bm : Nat} {wr : World} {u : Nat → Value} {j : Nat} {S : St} {l : List Pg} {g o len0 cap0 : Nat} {kind id xn : Int} {lg : Bool}
    (H : Brd w size cap fail k gl p bm wr u j S l g o len0 cap0 kind id xn lg) {K0 : Act → World → Prop} (hk : kind % 4 = 1) :
    Code.wp Try.prog body6 (BOut w size cap fail k gl p bm j g o len0 cap0 K0) (frame6 u) wr := by
  have hkl := H.P.kl
  rcases Int.lt_or_le fail 0 with hf0 | hf0
  · rcases Int.lt_or_le id 0 with hi0 | hi0
    · exact bcase_fa0_0 H hf0 hi0 hk
    · rcases Int.lt_or_le id (k : Int) with hi1' | hi1
      · obtain ⟨q, hq⟩ := Int.eq_ofNat_of_zero_le hi0
        have hql : q < l.length := by rw [hkl]; omega
        obtain ⟨⟨us, v⟩, hx⟩ : ∃ x, l[q]? = some x := ⟨_, List.getElem?_eq_getElem hql⟩
        cases us with
        | false =>
          have hi0 := hq
          have hi1 := hx
          exact bcase_fa0_2 H hf0 hi0 hi1 hk
        | true =>
          have hi0 := hq
          have hi1 := hx
          cases hfd : S.failed with
          | true => exact bcase_fo0_t H hf0 hi0 hi1 hfd hk
          | false => exact bcase_fo0_f H hf0 hi0 hi1 hfd hk
      · exact bcase_fa0_1 H hf0 hi0 hi1 hk
  · rcases Int.lt_or_le (S.ops : Int) fail with hf1 | hf1
    · rcases Int.lt_or_le id 0 with hi0 | hi0
      · exact bcase_fa1_0 H hf0 hf1 hi0 hk
      · rcases Int.lt_or_le id (k : Int) with hi1' | hi1
        · obtain ⟨q, hq⟩ := Int.eq_ofNat_of_zero_le hi0
          have hql : q < l.length := by rw [hkl]; omega
          obtain ⟨⟨us, v⟩, hx⟩ : ∃ x, l[q]? = some x := ⟨_, List.getElem?_eq_getElem hql⟩
          cases us with
          | false =>
            have hi0 := hq
            have hi1 := hx
            exact bcase_fa1_2 H hf0 hf1 hi0 hi1 hk
          | true =>
            have hi0 := hq
            have hi1 := hx
            cases hfd : S.failed with
            | true => exact bcase_fo1_t H hf0 hf1 hi0 hi1 hfd hk
            | false => exact bcase_fo1_f H hf0 hf1 hi0 hi1 hfd hk
        · exact bcase_fa1_1 H hf0 hf1 hi0 hi1 hk
    · rcases Int.lt_or_le id 0 with hi0 | hi0
      · exact bcase_fa2_0 H hf0 hf1 hi0 hk
      · rcases Int.lt_or_le id (k : Int) with hi1' | hi1
        · obtain ⟨q, hq⟩ := Int.eq_ofNat_of_zero_le hi0
          have hql : q < l.length := by rw [hkl]; omega
          obtain ⟨⟨us, v⟩, hx⟩ : ∃ x, l[q]? = some x := ⟨_, List.getElem?_eq_getElem hql⟩
          cases us with
          | false =>
            have hi0 := hq
            have hi1 := hx
            exact bcase_fa2_2 H hf0 hf1 hi0 hi1 hk
          | true =>
            have hi0 := hq
            have hi1 := hx
            cases hfd : S.failed with
            | true => exact bcase_ff_t H hf0 hf1 hi0 hi1 hfd hk
            | false => exact bcase_ff_f H hf0 hf1 hi0 hi1 hfd hk
        · exact bcase_fa2_1 H hf0 hf1 hi0 hi1 hk

theorem bkind2 {w : World} {size cap : Nat} {fail : Int} {k gl p bm : Nat} {wr : World} {u : Nat → Value} {j : Nat} {S : St} {l : List Pg} {g o len0 cap0 : Nat} {kind id xn : Int} {lg : Bool}
    (H : Brd w size cap fail k gl p bm wr u j S l g o len0 cap0 kind id xn lg) {K0 : Act → World → Prop} (hk : kind % 4 = 2) :
    Code.wp Try.prog body6 (BOut w size cap fail k gl p bm j g o len0 cap0 K0) (frame6 u) wr := by
  have hkl := H.P.kl
  rcases Int.lt_or_le fail 0 with hf0 | hf0
  · rcases Int.lt_or_le id 0 with hi0 | hi0
    · exact bcase_ra0_0 H hf0 hi0 hk
    · rcases Int.lt_or_le id (k : Int) with hi1' | hi1
      · obtain ⟨q, hq⟩ := Int.eq_ofNat_of_zero_le hi0
        have hql : q < l.length := by rw [hkl]; omega
        obtain ⟨⟨us, v⟩, hx⟩ : ∃ x, l[q]? = some x := ⟨_, List.getElem?_eq_getElem hql⟩
        cases us with
        | false =>
          have hi0 := hq
          have hi1 := hx
          exact bcase_ra0_2 H hf0 hi0 hi1 hk
        | true =>
          have hi0 := hq
          have hi1 := hx
          cases hfd : S.failed with
          | true => exact bcase_ro0_t H hf0 hi0 hi1 hfd hk
          | false => exact bcase_ro0_f H hf0 hi0 hi1 hfd hk
      · exact bcase_ra0_1 H hf0 hi0 hi1 hk
  · rcases Int.lt_or_le (S.ops : Int) fail with hf1 | hf1
    · rcases Int.lt_or_le id 0 with hi0 | hi0
      · exact bcase_ra1_0 H hf0 hf1 hi0 hk
      · rcases Int.lt_or_le id (k : Int) with hi1' | hi1
        · obtain ⟨q, hq⟩ := Int.eq_ofNat_of_zero_le hi0
          have hql : q < l.length := by rw [hkl]; omega
          obtain ⟨⟨us, v⟩, hx⟩ : ∃ x, l[q]? = some x := ⟨_, List.getElem?_eq_getElem hql⟩
          cases us with
          | false =>
            have hi0 := hq
            have hi1 := hx
            exact bcase_ra1_2 H hf0 hf1 hi0 hi1 hk
          | true =>
            have hi0 := hq
            have hi1 := hx
            cases hfd : S.failed with
            | true => exact bcase_ro1_t H hf0 hf1 hi0 hi1 hfd hk
            | false => exact bcase_ro1_f H hf0 hf1 hi0 hi1 hfd hk
        · exact bcase_ra1_1 H hf0 hf1 hi0 hi1 hk
    · rcases Int.lt_or_le id 0 with hi0 | hi0
      · exact bcase_ra2_0 H hf0 hf1 hi0 hk
      · rcases Int.lt_or_le id (k : Int) with hi1' | hi1
        · obtain ⟨q, hq⟩ := Int.eq_ofNat_of_zero_le hi0
          have hql : q < l.length := by rw [hkl]; omega
          obtain ⟨⟨us, v⟩, hx⟩ : ∃ x, l[q]? = some x := ⟨_, List.getElem?_eq_getElem hql⟩
          cases us with
          | false =>
            have hi0 := hq
            have hi1 := hx
            exact bcase_ra2_2 H hf0 hf1 hi0 hi1 hk
          | true =>
            have hi0 := hq
            have hi1 := hx
            cases hfd : S.failed with
            | true => exact bcase_rf_t H hf0 hf1 hi0 hi1 hfd hk
            | false => exact bcase_rf_f H hf0 hf1 hi0 hi1 hfd hk
        · exact bcase_ra2_1 H hf0 hf1 hi0 hi1 hk

theorem bkind3 {w : World} {size cap : Nat} {fail : Int} {k gl p bm : Nat} {wr : World} {u : Nat → Value} {j : Nat} {S : St} {l : List Pg} {g o len0 cap0 : Nat} {kind id xn : Int} {lg : Bool}
    (H : Brd w size cap fail k gl p bm wr u j S l g o len0 cap0 kind id xn lg) {K0 : Act → World → Prop} (hk : kind % 4 = 3) :
    Code.wp Try.prog body6 (BOut w size cap fail k gl p bm j g o len0 cap0 K0) (frame6 u) wr := by
  have hkl := H.P.kl
  rcases Int.lt_or_le fail 0 with hf0 | hf0
  · rcases Int.lt_or_le id 0 with hi0 | hi0
    · cases hlg : lg with
      | true => subst hlg; exact bcase_wa0_01 H hf0 hi0 hk rfl
      | false => subst hlg; exact bcase_wa0_00 H hf0 hi0 hk rfl
    · rcases Int.lt_or_le id (k : Int) with hi1' | hi1
      · obtain ⟨q, hq⟩ := Int.eq_ofNat_of_zero_le hi0
        have hql : q < l.length := by rw [hkl]; omega
        obtain ⟨⟨us, v⟩, hx⟩ : ∃ x, l[q]? = some x := ⟨_, List.getElem?_eq_getElem hql⟩
        cases us with
        | false =>
          have hi0 := hq
          have hi1 := hx
          cases hlg : lg with
          | true => subst hlg; exact bcase_wa0_21 H hf0 hi0 hi1 hk rfl
          | false => subst hlg; exact bcase_wa0_20 H hf0 hi0 hi1 hk rfl
        | true =>
          have hi0 := hq
          have hi1 := hx
          cases hlg : lg with
          | true => subst hlg; exact bcase_ww0 H hf0 hi0 hi1 hk rfl
          | false =>
            subst hlg
            cases hfd : S.failed with
            | true => exact bcase_wo0_t H hf0 hi0 hi1 hfd hk rfl
            | false => exact bcase_wo0_f H hf0 hi0 hi1 hfd hk rfl
      · cases hlg : lg with
        | true => subst hlg; exact bcase_wa0_11 H hf0 hi0 hi1 hk rfl
        | false => subst hlg; exact bcase_wa0_10 H hf0 hi0 hi1 hk rfl
  · rcases Int.lt_or_le (S.ops : Int) fail with hf1 | hf1
    · rcases Int.lt_or_le id 0 with hi0 | hi0
      · cases hlg : lg with
        | true => subst hlg; exact bcase_wa1_01 H hf0 hf1 hi0 hk rfl
        | false => subst hlg; exact bcase_wa1_00 H hf0 hf1 hi0 hk rfl
      · rcases Int.lt_or_le id (k : Int) with hi1' | hi1
        · obtain ⟨q, hq⟩ := Int.eq_ofNat_of_zero_le hi0
          have hql : q < l.length := by rw [hkl]; omega
          obtain ⟨⟨us, v⟩, hx⟩ : ∃ x, l[q]? = some x := ⟨_, List.getElem?_eq_getElem hql⟩
          cases us with
          | false =>
            have hi0 := hq
            have hi1 := hx
            cases hlg : lg with
            | true => subst hlg; exact bcase_wa1_21 H hf0 hf1 hi0 hi1 hk rfl
            | false => subst hlg; exact bcase_wa1_20 H hf0 hf1 hi0 hi1 hk rfl
          | true =>
            have hi0 := hq
            have hi1 := hx
            cases hlg : lg with
            | true => subst hlg; exact bcase_ww1 H hf0 hf1 hi0 hi1 hk rfl
            | false =>
              subst hlg
              cases hfd : S.failed with
              | true => exact bcase_wo1_t H hf0 hf1 hi0 hi1 hfd hk rfl
              | false => exact bcase_wo1_f H hf0 hf1 hi0 hi1 hfd hk rfl
        · cases hlg : lg with
          | true => subst hlg; exact bcase_wa1_11 H hf0 hf1 hi0 hi1 hk rfl
          | false => subst hlg; exact bcase_wa1_10 H hf0 hf1 hi0 hi1 hk rfl
    · rcases Int.lt_or_le id 0 with hi0 | hi0
      · cases hlg : lg with
        | true => subst hlg; exact bcase_wa2_01 H hf0 hf1 hi0 hk rfl
        | false => subst hlg; exact bcase_wa2_00 H hf0 hf1 hi0 hk rfl
      · rcases Int.lt_or_le id (k : Int) with hi1' | hi1
        · obtain ⟨q, hq⟩ := Int.eq_ofNat_of_zero_le hi0
          have hql : q < l.length := by rw [hkl]; omega
          obtain ⟨⟨us, v⟩, hx⟩ : ∃ x, l[q]? = some x := ⟨_, List.getElem?_eq_getElem hql⟩
          cases us with
          | false =>
            have hi0 := hq
            have hi1 := hx
            cases hlg : lg with
            | true => subst hlg; exact bcase_wa2_21 H hf0 hf1 hi0 hi1 hk rfl
            | false => subst hlg; exact bcase_wa2_20 H hf0 hf1 hi0 hi1 hk rfl
          | true =>
            have hi0 := hq
            have hi1 := hx
            cases hlg : lg with
            | true => subst hlg; exact bcase_ww2 H hf0 hf1 hi0 hi1 hk rfl
            | false =>
              subst hlg
              cases hfd : S.failed with
              | true => exact bcase_wf_t H hf0 hf1 hi0 hi1 hfd hk rfl
              | false => exact bcase_wf_f H hf0 hf1 hi0 hi1 hfd hk rfl
        · cases hlg : lg with
          | true => subst hlg; exact bcase_wa2_11 H hf0 hf1 hi0 hi1 hk rfl
          | false => subst hlg; exact bcase_wa2_10 H hf0 hf1 hi0 hi1 hk rfl

set_option maxRecDepth 1000000 in
set_option maxHeartbeats 4000000 in
theorem bcase_exit {w : World} {size cap : Nat} {fail : Int} {k gl p bm : Nat} {wr : World} {u : Nat → Value} {S : St} {l : List Pg} {a0 : Option Addr} {len0 cap0 : Nat} (hl : len0 ≤ 60)
    (u0 : u 0 = .int .i64 size) (u1 : u 1 = .int .i64 cap) (u2 : u 2 = .int .i64 fail) (u3 : u 3 = .slice a0 len0 cap0) (u9 : u 9 = .pointer (some ⟨p, 0, Option.none⟩)) (u11 : u 11 = .slice (some ⟨gl, 0, Option.none⟩) k k)
    (u12 : u 12 = .int .i64 (S.m.length : Nat)) (u13 : u 13 = .int .i64 S.peak) (u14 : u 14 = .int .i64 S.ops) (u15 : u 15 = .bool S.failed) (u16 : u 16 = .int .i64 len0)
    (P : BPlays w size cap fail k gl p bm wr S l l len0) {K0 : Act → World → Prop} (hexit : ∀ a' w', WB (BRel w size cap fail k gl p bm a0 len0 cap0) a' w' → K0 a' w') (J : Act → World → Prop) :
    Code.wp Try.prog body6 (Exit.then J (Exit.inBlock 0 (Exit.then K0 (bodyPost Try.prog Try.f6 (fun e w' => e = .returned (.bool true) ∧ Below w.heap.size w w'))))) (frame6 u) wr := by
  conv => arg 2; whnf
  simp only [frame6, u0, u1, u2, u3, u9, u11, u12, u13, u14, u15, u16]
  clear u0 u1 u2 u3 u9 u11 u12 u13 u14 u15 u16
  go_wp2_with fail
  exact WB.intro rfl ⟨len0, S, l, rfl, rfl, rfl, rfl, rfl, Nat.le_refl _, P, rfl, rfl, rfl, rfl, rfl, rfl⟩

theorem bround {w : World} {size cap : Nat} {fail : Int} {k gl p bm : Nat} {wr : World} {u : Nat → Value} {a0 : Option Addr} {len0 cap0 : Nat} (hl : len0 ≤ 60) (hsz : 16 ≤ size ∧ size ≤ 1024) (acts : BActs w a0 len0)
    (hI : BRel w size cap fail k gl p bm a0 len0 cap0 u wr) {K0 : Act → World → Prop} (hexit : ∀ a' w', WB (BRel w size cap fail k gl p bm a0 len0 cap0) a' w' → K0 a' w') :
    Code.wp Try.prog body6 (Exit.then (fun a' w' => WB (BRel w size cap fail k gl p bm a0 len0 cap0) a' w' ∧ Bmu len0 a' w' < Bmu len0 (frame6 u) wr) (Exit.inBlock 0 (Exit.then K0 (bodyPost Try.prog Try.f6 (fun e w' => e = .returned (.bool true) ∧ Below w.heap.size w w'))))) (frame6 u) wr := by
  obtain ⟨j, S, l, u12, u13, u14, u15, u16, hj, P, u0, u1, u2, u3, u9, u11⟩ := hI
  have hmu : Bmu len0 (frame6 u) wr = len0 - j := by
    have : (frame6 u).tmps.getD 16 undef = u 16 := rfl
    rw [Bmu, this, u16]; simp [intOf]
  rw [hmu]
  rcases Nat.lt_or_ge j len0 with hlt | hge
  · obtain ⟨x, kind, id, n, lg, rfl, ac⟩ := acts j hlt
    obtain ⟨g, o, rfl, d0, d1, d2, d3⟩ := bact_at ac (acts.spot (by omega)) P.bel
    have hkr := u8_range ac.w0
    have H : Brd w size cap fail k gl p bm wr u j S l g o len0 cap0 kind id n lg := ⟨u0, u1, u2, u3, u9, u11, u12, u13, u14, u15, u16, hlt, hl, d0, d1, d2, d3, P, hkr, hsz⟩
    have hkind : kind % 4 = 0 ∨ kind % 4 = 1 ∨ kind % 4 = 2 ∨ kind % 4 = 3 := by omega
    rcases hkind with hk | hk | hk | hk
    · exact bkind0 H hk
    · exact bkind1 H hk
    · exact bkind2 H hk
    · exact bkind3 H hk
  · obtain rfl : j = len0 := by omega
    exact bcase_exit hl u0 u1 u2 u3 u9 u11 u12 u13 u14 u15 u16 P hexit _

theorem loop6 {w : World} {size cap : Nat} {fail : Int} {k gl p bm : Nat} {wr : World} {a : Act} {a0 : Option Addr} {len0 cap0 : Nat} (hl : len0 ≤ 60) (hsz : 16 ≤ size ∧ size ≤ 1024) (acts : BActs w a0 len0)
    (hI : WB (BRel w size cap fail k gl p bm a0 len0 cap0) a wr) {K0 : Act → World → Prop} (hexit : ∀ a' w', WB (BRel w size cap fail k gl p bm a0 len0 cap0) a' w' → K0 a' w') :
    Code.wp Try.prog (Code.loop body6) (Exit.inBlock 0 (Exit.then K0 (bodyPost Try.prog Try.f6 (fun e w' => e = .returned (.bool true) ∧ Below w.heap.size w w')))) a wr := by
  refine wp_loop (WB (BRel w size cap fail k gl p bm a0 len0 cap0)) (Bmu len0) hI ?_
  rintro a' w' ⟨u, hu, rfl⟩
  exact bround hl hsz acts hu hexit
end Go.Proofs.Ytaeicondmiikaaa
