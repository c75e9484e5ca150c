/- Trees that were put together: their parts may be; how many tokens they have. Stages, plainly. -/
import Derived.Test.YtefcmijobbgpbaaGreatDoorExA
import Derived.Test.YtefcmijobbgpbaaGreatDoorExB
namespace Go.Proofs.YtefcmijobbgpbaaGreatDoor

def Ex.good (t : Ex) : Prop := ∀ p ∈ t.parts, isM p = true

theorem growM_good : ∀ {d : Nat} {x r : List PartR} {t : Ex}, growM d x = some (t, r) → t.good
  | 0, x, r, t, h => by simp [growM] at h
  | d + 1, [], r, t, h => by simp [growM] at h
  | d + 1, p :: x, r, t, h => by
    simp only [growM] at h
    split at h
    · cases h
    · rename_i hm
      have hm : isM p = true := by simpa using hm
      split at h
      · cases h
        intro q hq
        simp only [Ex.parts, List.mem_singleton] at hq
        rw [hq]; exact hm
      · split at h
        · split at h
          · cases h
          · rename_i a x1 ha
            split at h
            · cases h
              intro q hq
              simp only [Ex.parts, List.mem_cons] at hq
              rcases hq with rfl | hq
              · exact hm
              · exact growM_good ha q hq
            · cases h
        · split at h
          · cases h
          · rename_i a x1 ha
            split at h
            · cases h
            · rename_i b x2 hb
              split at h
              · cases h
                intro q hq
                simp only [Ex.parts, List.mem_cons, List.mem_append] at hq
                rcases hq with rfl | hq | hq
                · exact hm
                · exact growM_good ha q hq
                · exact growM_good hb q hq
              · cases h

theorem wholeM_grow {x : List PartR} {t : Ex} (h : wholeM x = some t) : growM 32 x = some (t, []) := by
  unfold wholeM at h
  split at h
  · cases h
  · split at h
    · rename_i t' hg
      cases h
      exact hg
    · cases h

theorem wholeM_good {x : List PartR} {t : Ex} (h : wholeM x = some t) : t.good := growM_good (wholeM_grow h)

theorem Ex.parts_pos (t : Ex) : 1 ≤ t.parts.length := by cases t <;> simp [Ex.parts]

theorem leafToks_len (p : PartR) : (leafToks p).length ≤ 3 ∧ 1 ≤ (leafToks p).length := by
  unfold leafToks
  split
  · simp
  · split
    · simp
    · split <;> simp

theorem toks_len : ∀ (t : Ex) (o : Bool), (t.toks o).length ≤ 3 * t.parts.length
  | .leaf p, o => by have := (leafToks_len p).1; simp only [Ex.toks, Ex.parts, List.length_singleton]; omega
  | .neg p a, o => by
    have := toks_len a false
    cases o <;> simp [Ex.toks, Ex.parts, fenced] <;> omega
  | .bin p a b, o => by
    have := toks_len a false
    have := toks_len b false
    cases o <;> simp [Ex.toks, Ex.parts, fenced] <;> omega

theorem Ex.good_neg {p : PartR} {a : Ex} (h : (Ex.neg p a).good) : isM p = true ∧ a.good := ⟨h p (by simp [Ex.parts]), fun q hq => h q (by simp [Ex.parts, hq])⟩
theorem Ex.good_bin {p : PartR} {a b : Ex} (h : (Ex.bin p a b).good) : isM p = true ∧ a.good ∧ b.good := ⟨h p (by simp [Ex.parts]), fun q hq => h q (by simp [Ex.parts, hq]), fun q hq => h q (by simp [Ex.parts, hq])⟩
theorem Ex.good_leaf {p : PartR} (h : (Ex.leaf p).good) : isM p = true := h p (by simp [Ex.parts])

theorem isM_field {p : PartR} (h : isM p = true) (hk : p.kind = 3) : 0 ≤ p.field ∧ p.field ≤ 5 ∧ (p.stage.data.toList = [] ∨ stageM p.stage = true) := by
  unfold isM at h
  rw [if_neg (by omega), if_neg (by omega), if_pos hk] at h
  simp only [Bool.and_eq_true, Bool.or_eq_true, decide_eq_true_eq] at h
  exact ⟨h.1.1.2, h.1.2, h.2⟩

/-! ### Stages -/
def stagesFrom : List PartR → List ByteArray → List ByteArray
  | [], out => out
  | p :: r, out => stagesFrom r (if p.stage.data.toList = [] then out else if hasM out p.stage then out else out ++ [p.stage])
def stagesM (l : List PartR) : List ByteArray := stagesFrom l []

theorem stagesFrom_len : ∀ (l : List PartR) (out : List ByteArray), (stagesFrom l out).length ≤ out.length + l.length
  | [], out => by simp [stagesFrom]
  | p :: r, out => by
    rw [stagesFrom]
    have := stagesFrom_len r (if p.stage.data.toList = [] then out else if hasM out p.stage then out else out ++ [p.stage])
    have h2 : (if p.stage.data.toList = [] then out else if hasM out p.stage then out else out ++ [p.stage]).length ≤ out.length + 1 := by
      split
      · omega
      · split
        · omega
        · simp
    simp only [List.length_cons]
    omega

end Go.Proofs.YtefcmijobbgpbaaGreatDoor
