/- ExprBack, walked. Conditions: those of each theorem. -/
import Derived.Test.YtefcmijobbgpbaaDoorExBB
import Derived.Test.YtefcmijobbgpbaaDoorExDD
import Derived.Test.YtefcmijobbgpbaaDoorExEE
namespace Go.Proofs.YtefcmijobbgpbaaDoor
open Go.RowKit

theorem write_split (l : List PartR) : (∃ t b, wholeM l = some t ∧ joinM (t.toks true) = .ok b ∧ writeM l = .ok b) ∨ (∃ c, writeM l = .error c ∧ (c == 0) = false) := by
  unfold writeM
  cases hw : wholeM l with
  | none => exact .inr ⟨110, rfl, rfl⟩
  | some t =>
    simp only
    cases hj : joinM (t.toks true) with
    | ok b => exact .inl ⟨t, b, rfl, hj, rfl⟩
    | error c => exact .inr ⟨c, rfl, by have := joinM_code hj; simpa using this⟩

theorem readM_ok {s : ByteArray} {y : List PartR} (h : readM s = .ok y) : ∀ p ∈ y, p.ok := by
  unfold readM at h
  split at h
  · cases h
  · split at h
    · cases h
    · rename_i xs hT
      unfold readToks at h
      split at h
      · cases h
      · rename_i x k' hr
        split at h
        · cases h
        · split at h
          · cases h
            have hall : ∀ k, (tokAt (toksR xs s.size) k).ok := by
              intro k
              by_cases hk : k < xs.length
              · obtain ⟨q, hq, he⟩ := tokAt_toksR (sz := s.size) hk
                rw [he]
                exact ((toks_single hT).2 q hq).2.1
              · by_cases hk2 : k = xs.length
                · rw [hk2, tokAt_last]
                  exact ⟨by simp, by simp, by simp [ByteArray.size]⟩
                · unfold tokAt
                  rw [List.getD_eq_getElem?_getD, List.getElem?_eq_none (by rw [toksR_length]; omega)]
                  exact ⟨by simp [endTok], by simp [endTok], by simp [endTok, ByteArray.size]⟩
            exact runM_ok hall _ none 0 0 0 hr (fun y h => by cases h)
          · cases h

set_option maxHeartbeats 8000000 in
set_option maxRecDepth 100000 in
theorem exprBack_any (l : List PartR) (v : Value) (s : ByteArray) (w : World) (hG : GlobX w) (hok : ∀ x ∈ l, x.ok) (hv : ArgPart w v l) :
    Calls Tryd.prog 3 #[v, .string s] w fun e w' => e = .returned (.bool true) ∧ Keeps [] w w' := by
  have HG := Lib.hid hG
  have HV := Lib.hid hv
  have HWk := Lib.hid (works_x w hG)
  have HWr := fun l v w hG hok hA => Lib.hid (write_any l v w hG hok hA)
  have HRd := fun s w hG => Lib.hid (read_any s w hG)
  have HO := Lib.hid hok
  have EQ := run_eqIn_fault
  have GD := fault_guard
  obtain ⟨ao, cap, rfl, _, _⟩ := hv
  obtain ⟨n, hnl⟩ : ∃ n, l.length = n := ⟨_, rfl⟩
  rw [hnl] at HV ⊢
  have HL := Lib.hid hnl
  have HY : Hid ((∃ c p, readM s = .error (p, c) ∧ c ≠ 0) ∨ (∃ y t b, readM s = .ok y ∧ wholeM y = some t ∧ joinM (t.toks true) = .ok b)) := by
    cases hr : readM s with
    | error q =>
      obtain ⟨p, c⟩ := q
      exact Lib.hid (.inl ⟨c, p, rfl, readM_code hr⟩)
    | ok y =>
      obtain ⟨t, b, h1, h2⟩ := read_write hr
      exact Lib.hid (.inr ⟨y, t, b, rfl, h1, h2⟩)
  clear hG hok hnl
  go_enter Tryd.func3, Tryd.ntmps3
  go_wp2_with fail
  refine HWk.out.mono ?_
  rintro e w2 ⟨rfl, hk2⟩
  go_wp2_with fail
  refine (HWr l _ w2 (HG.out.keep hk2) HO.out (HV.out.keep hk2)).out.mono ?_
  rintro e w3 ⟨rfl, hk3⟩
  have hk4 := hk2.then hk3
  rcases write_split l with ⟨t, b, hwl, hjl, hwr⟩ | ⟨c, hwr, hc⟩
  · have hrr := write_read hwl hjl
    have hll := (wholeM_parts hwl).2
    rw [hwr]
    have e1 : joinS (.ok b) = ⟨b.toArray⟩ := rfl
    have e2 : joinC (.ok b) = 0 := rfl
    rw [e1, e2]
    have HRX := HRd ⟨b.toArray⟩ w3 (HG.out.keep hk4)
    rw [hrr] at HRX
    generalize (⟨b.toArray⟩ : ByteArray) = bs0 at *
    clear hwr hrr e1 e2 hwl hjl
    go_wp2_with fail
    refine HRX.out.mono ?_
    rintro e w5 ⟨hro, hk5⟩
    obtain ⟨ao1, q1, cp1, rfl, hq1, hown1⟩ := hro.ok_form
    have hk6 := (hk4.then hk5).alloc (.cells #[.int .i64 0, .int .i64 0] 28 (0, 0))
    have hAz := (own_parts hown1 hq1).keep ((Keeps.refl [] w5).alloc (.cells #[.int .i64 0, .int .i64 0] 28 (0, 0)))
    have HSM := Lib.hid (same_parts l _ _ _ (HV.out.keep hk6) hAz (by omega))
    clear HRX hro hown1 hAz hq1 hll
    go_wp2_with fail
    refine HSM.out.mono ?_
    rintro e wm ⟨rfl, hk7⟩
    have hkm := hk6.then hk7
    clear HSM hk7 hk6 hk5
    go_wp2_with fail
    refine (HRd s _ (HG.out.keep hkm)).out.mono ?_
    rintro e w20 ⟨hro, hk20⟩
    have hk21 := hkm.then hk20
    rcases HY.out with ⟨c, p, hre, hc⟩ | ⟨y, t, b, hre, hwy, hjy⟩
    · rw [hre] at hro
      have hro := hro.err_form
      subst hro
      have d9 : ((p == 0) && (c == 0)) = false := by
        have : (c == 0) = false := by rw [beq_eq_false_iff_ne]; exact hc
        rw [this, Bool.and_false]
      have hk22 := hk21.alloc (.cells #[.int .i64 p, .int .i64 c] 28 (0, 0))
      clear hc hre
      go_wp2_with fail
      go_returns
      exact ⟨rfl, hk22⟩
    · have hyok := readM_ok hre
      rw [hre] at hro
      obtain ⟨ao2, q2, cp2, rfl, hq2, hown2⟩ := hro.ok_form
      have hk22 := hk21.alloc (.cells #[.int .i64 0, .int .i64 0] 28 (0, 0))
      have hAy := (own_parts hown2 hq2).keep ((Keeps.refl [] w20).alloc (.cells #[.int .i64 0, .int .i64 0] 28 (0, 0)))
      have HAY := Lib.hid hAy
      have hly : y.length ≤ 200 := (wholeM_parts hwy).2
      have hwr : writeM y = .ok b := by unfold writeM; rw [hwy]; exact hjy
      have hrr := write_read hwy hjy
      have HWY := HWr y _ _ (HG.out.keep hk22) hyok HAY.out
      rw [hwr] at HWY
      have e1 : joinS (.ok b) = ⟨b.toArray⟩ := rfl
      have e2 : joinC (.ok b) = 0 := rfl
      rw [e1, e2] at HWY
      have HRY := fun w hG => HRd ⟨b.toArray⟩ w hG
      rw [hrr] at HRY
      generalize (⟨b.toArray⟩ : ByteArray) = bs at *
      clear hwr hrr hre hyok hown2 hAy hro e1 e2 hwy hjy
      go_wp2_with fail
      refine HWY.out.mono ?_
      rintro e w23 ⟨rfl, hk23⟩
      have hk24 := hk22.then hk23
      clear HWY
      go_wp2_with fail
      refine (HRY _ (HG.out.keep hk24)).out.mono ?_
      rintro e w25 ⟨hro2, hk25⟩
      obtain ⟨ao3, q3, cp3, rfl, hq3, hown3⟩ := hro2.ok_form
      have hk26 := (hk24.then hk25).alloc (.cells #[.int .i64 0, .int .i64 0] 28 (0, 0))
      have hb14 := heap_alloc_new w25 (.cells #[.int .i64 0, .int .i64 0] 28 (0, 0))
      have hAz := (own_parts hown3 hq3).keep ((Keeps.refl [] w25).alloc (.cells #[.int .i64 0, .int .i64 0] 28 (0, 0)))
      have hAy2 := HAY.out.keep (hk23.then (hk25.alloc (.cells #[.int .i64 0, .int .i64 0] 28 (0, 0))))
      have HSM := Lib.hid (same_parts y _ _ _ hAy2 hAz (by omega))
      clear HRY hro2 hown3 hAz hAy2 hb14 HAY hq2 hq3 hly
      go_wp2_with fail
      refine HSM.out.mono ?_
      rintro e w27 ⟨rfl, hk27⟩
      go_wp2_with fail
      go_returns
      exact ⟨rfl, hk26.then hk27⟩
  · rw [hwr]
    have e1 : joinS (.error c) = ⟨#[]⟩ := rfl
    have e2 : joinC (.error c) = c := rfl
    rw [e1, e2]
    have hkm := hk4
    clear hwr e1 e2
    go_wp2_with fail
    refine (HRd s _ (HG.out.keep hkm)).out.mono ?_
    rintro e w20 ⟨hro, hk20⟩
    have hk21 := hkm.then hk20
    rcases HY.out with ⟨c, p, hre, hc⟩ | ⟨y, t, b, hre, hwy, hjy⟩
    · rw [hre] at hro
      have hro := hro.err_form
      subst hro
      have d9 : ((p == 0) && (c == 0)) = false := by
        have : (c == 0) = false := by rw [beq_eq_false_iff_ne]; exact hc
        rw [this, Bool.and_false]
      have hk22 := hk21.alloc (.cells #[.int .i64 p, .int .i64 c] 28 (0, 0))
      clear hc hre
      go_wp2_with fail
      go_returns
      exact ⟨rfl, hk22⟩
    · have hyok := readM_ok hre
      rw [hre] at hro
      obtain ⟨ao2, q2, cp2, rfl, hq2, hown2⟩ := hro.ok_form
      have hk22 := hk21.alloc (.cells #[.int .i64 0, .int .i64 0] 28 (0, 0))
      have hAy := (own_parts hown2 hq2).keep ((Keeps.refl [] w20).alloc (.cells #[.int .i64 0, .int .i64 0] 28 (0, 0)))
      have HAY := Lib.hid hAy
      have hly : y.length ≤ 200 := (wholeM_parts hwy).2
      have hwr : writeM y = .ok b := by unfold writeM; rw [hwy]; exact hjy
      have hrr := write_read hwy hjy
      have HWY := HWr y _ _ (HG.out.keep hk22) hyok HAY.out
      rw [hwr] at HWY
      have e1 : joinS (.ok b) = ⟨b.toArray⟩ := rfl
      have e2 : joinC (.ok b) = 0 := rfl
      rw [e1, e2] at HWY
      have HRY := fun w hG => HRd ⟨b.toArray⟩ w hG
      rw [hrr] at HRY
      generalize (⟨b.toArray⟩ : ByteArray) = bs at *
      clear hwr hrr hre hyok hown2 hAy hro e1 e2 hwy hjy
      go_wp2_with fail
      refine HWY.out.mono ?_
      rintro e w23 ⟨rfl, hk23⟩
      have hk24 := hk22.then hk23
      clear HWY
      go_wp2_with fail
      refine (HRY _ (HG.out.keep hk24)).out.mono ?_
      rintro e w25 ⟨hro2, hk25⟩
      obtain ⟨ao3, q3, cp3, rfl, hq3, hown3⟩ := hro2.ok_form
      have hk26 := (hk24.then hk25).alloc (.cells #[.int .i64 0, .int .i64 0] 28 (0, 0))
      have hb14 := heap_alloc_new w25 (.cells #[.int .i64 0, .int .i64 0] 28 (0, 0))
      have hAz := (own_parts hown3 hq3).keep ((Keeps.refl [] w25).alloc (.cells #[.int .i64 0, .int .i64 0] 28 (0, 0)))
      have hAy2 := HAY.out.keep (hk23.then (hk25.alloc (.cells #[.int .i64 0, .int .i64 0] 28 (0, 0))))
      have HSM := Lib.hid (same_parts y _ _ _ hAy2 hAz (by omega))
      clear HRY hro2 hown3 hAz hAy2 hb14 HAY hq2 hq3 hly
      go_wp2_with fail
      refine HSM.out.mono ?_
      rintro e w27 ⟨rfl, hk27⟩
      go_wp2_with fail
      go_returns
      exact ⟨rfl, hk26.then hk27⟩

end Go.Proofs.YtefcmijobbgpbaaDoor
