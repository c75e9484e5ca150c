/- ExprTruths, plainly. Conditions: those of each theorem. -/
import Derived.Test.YtefcmijobbgpbaaGreatDoorExLL
namespace Go.Proofs.YtefcmijobbgpbaaGreatDoor
open Go.RowKit

theorem growM_more : ∀ {d : Nat} {x r : List PartR} {t : Ex}, growM d x = some (t, r) → growM (d + 1) x = some (t, r)
  | 0, x, r, t, h => by simp [growM] at h
  | d + 1, [], r, t, h => by simp [growM] at h
  | d + 1, p :: x, r, t, h => by
    rw [growM] at h
    rw [growM]
    split at h
    · cases h
    · rename_i hm
      rw [if_neg hm]
      split at h
      · rename_i h3
        rw [if_pos h3]
        exact h
      · rename_i h3
        rw [if_neg h3]
        split at h
        · rename_i h13
          rw [if_pos h13]
          split at h
          · cases h
          · rename_i a x1 ha
            rw [growM_more ha]
            exact h
        · rename_i h13
          rw [if_neg h13]
          split at h
          · cases h
          · rename_i a x1 ha
            rw [growM_more ha]
            split at h
            · cases h
            · rename_i b x2 hb
              simp only [growM_more hb]
              exact h

theorem growM_app (z : List PartR) : ∀ {d : Nat} {x r : List PartR} {t : Ex}, growM d x = some (t, r) → growM d (x ++ z) = some (t, r ++ z)
  | 0, x, r, t, h => by simp [growM] at h
  | d + 1, [], r, t, h => by simp [growM] at h
  | d + 1, p :: x, r, t, h => by
    rw [growM] at h
    rw [List.cons_append, growM]
    split at h
    · cases h
    · rename_i hm
      rw [if_neg hm]
      split at h
      · rename_i h3
        rw [if_pos h3]
        cases h
        rfl
      · rename_i h3
        rw [if_neg h3]
        split at h
        · rename_i h13
          rw [if_pos h13]
          split at h
          · cases h
          · rename_i a x1 ha
            rw [growM_app z ha]
            split at h
            · rename_i hk
              cases h
              simp only [if_pos hk]
            · cases h
        · rename_i h13
          rw [if_neg h13]
          split at h
          · cases h
          · rename_i a x1 ha
            rw [growM_app z ha]
            split at h
            · cases h
            · rename_i b x2 hb
              simp only [growM_app z hb]
              split at h
              · rename_i hk
                cases h
                rw [if_pos hk]
              · cases h

theorem isM_opP {k : Int} (h : 4 ≤ k ∧ k ≤ 13) : isM (opP k) = true := by
  unfold isM opP
  simp only
  rw [if_neg (by omega), if_neg (by omega), if_neg (by omega)]
  simp [h.1, h.2]

theorem wholeM_neg {x : List PartR} {t a : Ex} (h : wholeM (opP 13 :: x) = some t) (ha : wholeM x = some a) : t = .neg (opP 13) a := by
  have h1 := wholeM_grow h
  have h2 := wholeM_grow ha
  rw [growM_neg (isM_opP (by omega)) rfl] at h1
  cases hb : growM 31 x with
  | none => rw [hb] at h1; cases h1
  | some q =>
    obtain ⟨b, x1⟩ := q
    rw [hb] at h1
    have h3 := growM_more hb
    simp only [negM] at h1
    split at h1
    · cases h1
      rw [h3] at h2
      cases h2
      rfl
    · cases h1

theorem wholeM_two {k : Int} (hk : 4 ≤ k ∧ k ≤ 12) {x y : List PartR} {t a b : Ex} (h : wholeM (opP k :: (x ++ y)) = some t) (ha : wholeM x = some a) (hb : wholeM y = some b) : t = .bin (opP k) a b := by
  have h1 := wholeM_grow h
  have h2 := growM_app y (wholeM_grow ha)
  have h3 := wholeM_grow hb
  rw [growM_bin (isM_opP (by omega)) (by simp only [opP]; omega) (by simp only [opP]; omega)] at h1
  cases ha' : growM 31 (x ++ y) with
  | none => rw [ha'] at h1; cases h1
  | some q =>
    obtain ⟨a', x1⟩ := q
    rw [ha'] at h1
    rw [growM_more ha'] at h2
    simp only [binM] at h1
    cases hb' : growM 31 x1 with
    | none => rw [hb'] at h1; cases h1
    | some q2 =>
      obtain ⟨b', x2⟩ := q2
      rw [hb'] at h1
      have h4 := growM_more hb'
      cases h2
      rw [List.nil_append, h3] at h4
      cases h4
      simp only [binM.bin2M] at h1
      split at h1
      · cases h1
        rfl
      · cases h1

theorem stagesFrom_app : ∀ (x y : List PartR) (out : List ByteArray), stagesFrom (x ++ y) out = stagesFrom y (stagesFrom x out)
  | [], _, _ => rfl
  | p :: x, y, out => by rw [List.cons_append, stagesFrom, stagesFrom, stagesFrom_app x y]

theorem missM_nil {L : List ByteArray} (h : missM [] L = false) : L = [] := by
  cases L with
  | nil => rfl
  | cons a r => simp [missM, missFrom, hasM, idxFrom] at h

theorem stages_neg {x : List PartR} (h : missM [] (stagesM x) = false) : missM [] (stagesM (opP 13 :: x)) = false := by
  have : stagesM (opP 13 :: x) = stagesM x := by simp [stagesM, stagesFrom, opP]
  rw [this]
  exact h

theorem stages_two {k : Int} {x y : List PartR} (h : missM [] (stagesM x) = false) (h' : missM [] (stagesM y) = false) : missM [] (stagesM (opP k :: (x ++ y))) = false := by
  have : stagesM (opP k :: (x ++ y)) = stagesFrom y (stagesM x) := by simp [stagesM, stagesFrom, opP, stagesFrom_app]
  rw [this, missM_nil h]
  exact h'

/-- A truth that may be. -/
def truthM (x : List PartR) : Bool := decide (checkE x = 0) && decide (checkK x = 3)

theorem truthM_some {x : List PartR} (h : truthM x = true) : ∃ t, wholeM x = some t ∧ t.kind = 3 := by
  unfold truthM checkE checkK at h
  cases hw : wholeM x with
  | none => rw [hw] at h; simp at h
  | some t => rw [hw] at h; exact ⟨t, rfl, by simpa using h⟩

theorem holds_truth {x : List PartR} {t : Ex} (ev : EvR) (hw : wholeM x = some t) (hk : t.kind = 3) : holdsC x [] [] = (if missM [] (stagesM x) = false then 0 else 5) ∧ (missM [] (stagesM x) = false → holdsB x ev [] [] = (t.val (getM ev [] [])).ok) := by
  refine ⟨?_, fun hm => ?_⟩
  · unfold holdsC
    rw [hw]
    simp only [if_pos hk]
    simp
  · unfold holdsB
    rw [hw]
    simp [hk, hm]

theorem holdsC_cases {x : List PartR} (h : truthM x = true) : (holdsC x [] [] = 0 ∧ missM [] (stagesM x) = false) ∨ holdsC x [] [] = 5 := by
  obtain ⟨t, hw, hk⟩ := truthM_some h
  rw [(holds_truth ⟨⟨#[]⟩, ⟨#[]⟩, 0, 0, 0, 0, ⟨#[]⟩⟩ hw hk).1]
  cases hm : missM [] (stagesM x) with
  | true => right; simp
  | false => left; simp

/-- Its not. -/
theorem truths_neg {x : List PartR} (ev : EvR) (hx : truthM x = true) (hz : truthM (opP 13 :: x) = true) (hm : missM [] (stagesM x) = false) :
    holdsB (opP 13 :: x) ev [] [] = (!holdsB x ev [] []) ∧ holdsC (opP 13 :: x) [] [] = 0 := by
  obtain ⟨a, ha, hka⟩ := truthM_some hx
  obtain ⟨t, ht, hkt⟩ := truthM_some hz
  have hm2 := stages_neg hm
  obtain ⟨h1, h2⟩ := holds_truth ev ht hkt
  rw [h1, h2 hm2, (holds_truth ev ha hka).2 hm, hm2, wholeM_neg ht ha]
  exact ⟨rfl, rfl⟩

/-- Two of them. -/
theorem truths_two {k : Int} (hk : k = 11 ∨ k = 12) {x y : List PartR} (ev : EvR) (hx : truthM x = true) (hy : truthM y = true) (hz : truthM (opP k :: (x ++ y)) = true) (hm : missM [] (stagesM x) = false) (hm' : missM [] (stagesM y) = false) :
    holdsB (opP k :: (x ++ y)) ev [] [] = (if k = 11 then holdsB x ev [] [] && holdsB y ev [] [] else holdsB x ev [] [] || holdsB y ev [] []) ∧ holdsC (opP k :: (x ++ y)) [] [] = 0 := by
  obtain ⟨a, ha, hka⟩ := truthM_some hx
  obtain ⟨b, hb, hkb⟩ := truthM_some hy
  obtain ⟨t, ht, hkt⟩ := truthM_some hz
  have hm2 := stages_two (k := k) hm hm'
  obtain ⟨h1, h2⟩ := holds_truth ev ht hkt
  rw [h1, h2 hm2, (holds_truth ev ha hka).2 hm, (holds_truth ev hb hkb).2 hm', hm2, wholeM_two (by omega) ht ha hb]
  refine ⟨?_, rfl⟩
  rcases hk with rfl | rfl
  · rfl
  · rfl

end Go.Proofs.YtefcmijobbgpbaaGreatDoor
