/- ExprNeeds, plainly. Conditions: those of each theorem. -/
import Derived.Test.YtefcmijobbgpbaaGreatDoorExTA
namespace Go.Proofs.YtefcmijobbgpbaaGreatDoor
open Go.RowKit

def bZzz : ByteArray := ⟨#[122, 122, 122]⟩
def Apart (L : List ByteArray) : Prop := L.Pairwise fun a b => a.data.toList ≠ b.data.toList
def Full (L : List ByteArray) : Prop := ∀ s ∈ L, s.data.toList ≠ []

theorem idxFrom_neg {s : ByteArray} : ∀ (L : List ByteArray) (k : Nat), (∀ x ∈ L, x.data.toList ≠ s.data.toList) → idxFrom s L k = -1
  | [], _, _ => rfl
  | x :: r, k, h => by
    rw [idxFrom, if_neg (h x (by simp))]
    exact idxFrom_neg r (k + 1) fun y hy => h y (by simp [hy])

theorem idxFrom_pos {s : ByteArray} : ∀ (L : List ByteArray) (k : Nat), (∃ x ∈ L, x.data.toList = s.data.toList) → (k : Int) ≤ idxFrom s L k
  | [], _, h => by obtain ⟨x, hx, _⟩ := h; cases hx
  | x :: r, k, h => by
    rw [idxFrom]
    split
    · exact Int.le_refl _
    · rename_i hne
      obtain ⟨y, hy, he⟩ := h
      rcases List.mem_cons.1 hy with rfl | hy
      · exact absurd he hne
      · have := idxFrom_pos r (k + 1) ⟨y, hy, he⟩
        omega

theorem hasM_true {L : List ByteArray} {s : ByteArray} (h : ∃ x ∈ L, x.data.toList = s.data.toList) : hasM L s = true := by
  have := idxFrom_pos L 0 h
  simp only [hasM, decide_eq_true_eq]
  omega

theorem hasM_not {L : List ByteArray} {s : ByteArray} (h : ∀ x ∈ L, x.data.toList ≠ s.data.toList) : hasM L s = false := by
  rw [hasM, idxFrom_neg L 0 h]
  rfl

theorem hasM_out {L : List ByteArray} {s : ByteArray} (h : ¬ hasM L s = true) : ∀ x ∈ L, x.data.toList ≠ s.data.toList := fun x hx he => h (hasM_true ⟨x, hx, he⟩)

theorem stagesFrom_apart : ∀ (l : List PartR) (out : List ByteArray), Apart out → Full out → Apart (stagesFrom l out) ∧ Full (stagesFrom l out)
  | [], out, h1, h2 => ⟨h1, h2⟩
  | p :: r, out, h1, h2 => by
    rw [stagesFrom]
    split
    · exact stagesFrom_apart r out h1 h2
    · rename_i hne
      split
      · exact stagesFrom_apart r out h1 h2
      · rename_i hh
        refine stagesFrom_apart r _ ?_ ?_
        · refine List.pairwise_append.2 ⟨h1, by simp, fun a ha b hb => ?_⟩
          rw [List.mem_singleton] at hb
          rw [hb]
          exact hasM_out hh a ha
        · intro s hs
          rcases List.mem_append.1 hs with hs | hs
          · exact h2 s hs
          · rw [List.mem_singleton] at hs
            rw [hs]
            exact hne

theorem stagesM_apart (l : List PartR) : Apart (stagesM l) ∧ Full (stagesM l) := stagesFrom_apart l [] List.Pairwise.nil (fun _ h => by cases h)

theorem missM_of {names L : List ByteArray} (h : ∀ s ∈ L, hasM names s = true) : missM names L = false := by
  have hm : ∀ (L : List ByteArray) (k : Nat), (∀ s ∈ L, hasM names s = true) → missFrom names L k = -1 := by
    intro L
    induction L with
    | nil => intro k _; rfl
    | cons a r ih => intro k h; rw [missFrom, if_pos (h a (by simp))]; exact ih (k + 1) fun s hs => h s (by simp [hs])
  rw [missM, hm L 0 h]
  rfl

theorem missM_bad {names L : List ByteArray} {s : ByteArray} (hs : s ∈ L) (h : hasM names s = false) : missM names L = true := by
  rw [missM, decide_eq_true_eq]
  by_cases hl : missFrom names L 0 < 0
  · have := missFrom_all L 0 hl s hs
    rw [h] at this
    cases this
  · omega

theorem miss_self (L : List ByteArray) : missM L L = false := missM_of fun s hs => hasM_true ⟨s, hs, rfl⟩
theorem miss_more (z : ByteArray) (L : List ByteArray) : missM (z :: L) L = false := missM_of fun s hs => hasM_true ⟨s, by simp [hs], rfl⟩

theorem miss_less {L : List ByteArray} (h : Apart L) {i : Nat} (hi : i < L.length) : missM (L.take i ++ L.drop (i + 1)) L = true := by
  refine missM_bad (s := L[i]) (List.getElem_mem hi) (hasM_not fun x hx => ?_)
  rw [Apart, List.pairwise_iff_getElem] at h
  rcases List.mem_append.1 hx with hx | hx
  · obtain ⟨j, hj, rfl⟩ := List.mem_iff_getElem.1 hx
    rw [List.length_take] at hj
    rw [List.getElem_take]
    exact h j i (by omega) hi (by omega)
  · obtain ⟨j, hj, rfl⟩ := List.mem_iff_getElem.1 hx
    rw [List.length_drop] at hj
    rw [List.getElem_drop]
    exact fun e => h i (i + 1 + j) hi (by omega) (by omega) e.symm

theorem holdsC_names {x : List PartR} {t : Ex} (hw : wholeM x = some t) (hk : t.kind = 3) {names : List ByteArray} {last : List EvR} (hl : names.length = last.length) : holdsC x names last = if missM names (stagesM x) = false then 0 else 5 := by
  unfold holdsC
  rw [hw]
  simp only [if_pos hk, hl]
  simp

theorem holdsB_names {x : List PartR} {t : Ex} (ev : EvR) (hw : wholeM x = some t) (hk : t.kind = 3) {names : List ByteArray} {last : List EvR} (hl : names.length = last.length) (hm : missM names (stagesM x) = false) : holdsB x ev names last = (t.val (getM ev names last)).ok := by
  unfold holdsB
  rw [hw]
  simp [hk, hl, hm]

theorem Ex.val_congr {g g' : ByteArray → Int → ValR} : ∀ (t : Ex), (∀ p ∈ t.parts, g p.stage p.field = g' p.stage p.field) → t.val g = t.val g'
  | .leaf p, h => by
    have := h p (by simp [Ex.parts])
    simp only [Ex.val, this]
  | .neg p a, h => by
    rw [Ex.val, Ex.val, Ex.val_congr a fun q hq => h q (by simp [Ex.parts, hq])]
  | .bin p a b, h => by
    rw [Ex.val, Ex.val, Ex.val_congr a fun q hq => h q (by simp [Ex.parts, hq]), Ex.val_congr b fun q hq => h q (by simp [Ex.parts, hq])]

theorem idxFrom_succ {s : ByteArray} : ∀ (L : List ByteArray) (k : Nat), 0 ≤ idxFrom s L k → idxFrom s L (k + 1) = idxFrom s L k + 1
  | [], _, h => by simp [idxFrom] at h
  | x :: r, k, h => by
    rw [idxFrom] at h ⊢
    rw [idxFrom]
    split
    · rfl
    · rename_i hne
      rw [if_neg hne] at h
      exact idxFrom_succ r (k + 1) h

theorem needs_more {x : List PartR} (ev q : EvR) (hx : truthM x = true) {last : List EvR} (hl : (stagesM x).length = last.length) (hz : ∀ s ∈ stagesM x, s.data.toList ≠ bZzz.data.toList) :
    holdsB x ev (bZzz :: stagesM x) (q :: last) = holdsB x ev (stagesM x) last := by
  obtain ⟨t, hw, hk⟩ := truthM_some hx
  rw [holdsB_names ev hw hk (by simp [hl]) (miss_more _ _), holdsB_names ev hw hk hl (miss_self _)]
  refine congrArg ValR.ok (Ex.val_congr t fun p hp => ?_)
  have hp : p ∈ x := by rw [(wholeM_parts hw).1]; exact hp
  unfold getM
  split
  · rfl
  · rename_i hne
    obtain ⟨s, hs, he⟩ := (stages_cover x []).2 p hp hne
    have hzs : ¬ bZzz.data.toList = p.stage.data.toList := fun e => hz s hs (he.trans e.symm)
    have h0 : 0 ≤ idxFrom p.stage (stagesM x) 0 := by
      have := idxFrom_pos (s := p.stage) (stagesM x) 0 ⟨s, hs, he⟩
      omega
    rw [idxFrom, if_neg hzs, idxFrom_succ _ _ h0]
    have : (idxFrom p.stage (stagesM x) 0 + 1).toNat = (idxFrom p.stage (stagesM x) 0).toNat + 1 := by omega
    rw [this, List.getD_cons_succ]

theorem needs_code {x : List PartR} (hx : truthM x = true) {names : List ByteArray} {last : List EvR} (hl : names.length = last.length) : holdsC x names last = if missM names (stagesM x) = false then 0 else 5 := by
  obtain ⟨t, hw, hk⟩ := truthM_some hx
  exact holdsC_names hw hk hl

end Go.Proofs.YtefcmijobbgpbaaGreatDoor
