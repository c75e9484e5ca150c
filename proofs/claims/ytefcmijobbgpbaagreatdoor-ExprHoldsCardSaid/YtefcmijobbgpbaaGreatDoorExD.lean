/- Reading an expression, plainly. -/
import Derived.Test.YtefcmijobbgpbaaGreatDoorExA
namespace Go.Proofs.YtefcmijobbgpbaaGreatDoor

/-- What a reader comes to: parts and the place behind, or a place where it is stuck. -/
inductive PRes
  | ok (x : List PartR) (at_ : Nat)
  | stuck (a : Int)

def endTok : TokR := ⟨0, ⟨#[]⟩, 0, 0⟩
def tokAt (l : List TokR) (k : Nat) : TokR := l.getD k endTok

def numP (n : Int) : PartR := ⟨1, n, ⟨#[]⟩, ⟨#[]⟩, 0⟩
def textP (s : ByteArray) : PartR := ⟨2, 0, s, ⟨#[]⟩, 0⟩
def fieldP (st : ByteArray) (f : Int) : PartR := ⟨3, 0, ⟨#[]⟩, st, f⟩
def opP (k : Int) : PartR := ⟨k, 0, ⟨#[]⟩, ⟨#[]⟩, 0⟩

def isSignT (t : TokR) (s : ByteArray) : Bool := decide (t.kind = 4) && decide (t.s.data.toList = s.data.toList)
def isWordT (t : TokR) (s : ByteArray) : Bool := decide (t.kind = 1) && decide (t.s.data.toList = s.data.toList)

def wordR (l : List TokR) (k : Nat) : PRes :=
  if 0 ≤ fieldI (tokAt l k).s then .ok [fieldP ⟨#[]⟩ (fieldI (tokAt l k).s)] (k + 1)
  else if stageM (tokAt l k).s = false then .stuck (tokAt l k).at_
  else if isSignT (tokAt l (k + 1)) bDot = false then .stuck (tokAt l (k + 1)).at_
  else if (tokAt l (k + 2)).kind = 1 ∧ 0 ≤ fieldI (tokAt l (k + 2)).s then .ok [fieldP (tokAt l k).s (fieldI (tokAt l (k + 2)).s)] (k + 3)
  else .stuck (tokAt l (k + 2)).at_

/-- The kind of the operation of a level that a token is. -/
def infixFrom (n : Int) (t : TokR) : List OpR → Option Int
  | [] => none
  | o :: r => if o.level = n ∧ t.kind = (if o.of_ = 3 then 1 else 4) ∧ t.s.data.toList = o.sign.data.toList then some o.kind else infixFrom n t r
def infixM (n : Int) (t : TokR) : Option Int := infixFrom n t opsL

/-- The reader: at a level (none), or behind an expression of that level (some). -/
def runM (l : List TokR) : Nat → Option (List PartR) → Nat → Nat → Nat → PRes
  | 0, _, _, _, _ => .stuck 0
  | f + 1, some x, n, k, deep =>
    match infixM n (tokAt l k) with
    | none => .ok x k
    | some o =>
      match runM l f none (n + 1) (k + 1) deep with
      | .stuck a => .stuck a
      | .ok y k' => if n = 3 then .ok (opP o :: (x ++ y)) k' else runM l f (some (opP o :: (x ++ y))) n k' deep
  | f + 1, none, n, k, deep =>
    if n = 6 then
      if (tokAt l k).kind = 2 then .ok [numP (tokAt l k).n] (k + 1)
      else if (tokAt l k).kind = 3 then .ok [textP (tokAt l k).s] (k + 1)
      else if (tokAt l k).kind = 1 then wordR l k
      else if isSignT (tokAt l k) bOpen = false then .stuck (tokAt l k).at_
      else if 200 < deep + 1 then .stuck (tokAt l (k + 1)).at_
      else match runM l f none 0 (k + 1) (deep + 1) with
        | .stuck a => .stuck a
        | .ok x k' => if isSignT (tokAt l k') bShut = false then .stuck (tokAt l k').at_ else .ok x (k' + 1)
    else if n = 2 then
      if isWordT (tokAt l k) bNot then
        if 200 < deep + 1 then .stuck (tokAt l (k + 1)).at_
        else match runM l f none 2 (k + 1) (deep + 1) with
          | .stuck a => .stuck a
          | .ok x k' => .ok (opP 13 :: x) k'
      else runM l f none 3 k deep
    else
      match runM l f none (n + 1) k deep with
      | .stuck a => .stuck a
      | .ok x k' => runM l f (some x) n k' deep

theorem infix_word {n : Int} {t : TokR} {k : Int} : ∀ {L : List OpR}, infixFrom n t L = some k → t.kind ≠ 0
  | [], h => by cases h
  | o :: r, h => by
    rw [infixFrom] at h
    by_cases hc : o.level = n ∧ t.kind = (if o.of_ = 3 then 1 else 4) ∧ t.s.data.toList = o.sign.data.toList
    · intro e
      rw [e] at hc
      obtain ⟨_, h2, _⟩ := hc
      by_cases h3 : o.of_ = 3
      · rw [if_pos h3] at h2; omega
      · rw [if_neg h3] at h2; omega
    · rw [if_neg hc] at h
      exact infix_word h

theorem tokAt_lt {l : List TokR} {k : Nat} (h : (tokAt l k).kind ≠ 0) : k < l.length := by
  rcases Nat.lt_or_ge k l.length with hk | hk
  · exact hk
  · unfold tokAt at h
    rw [List.getD_eq_getElem?_getD, List.getElem?_eq_none hk] at h
    exact absurd rfl h

theorem sign_kind {t : TokR} {s : ByteArray} (h : ¬ isSignT t s = false) : t.kind ≠ 0 := by
  unfold isSignT at h
  intro e
  rw [e] at h
  simp at h
theorem word_kind {t : TokR} {s : ByteArray} (h : isWordT t s = true) : t.kind ≠ 0 := by
  unfold isWordT at h
  intro e
  rw [e] at h
  simp at h

/-- What was read moved on, and is no longer than that. -/
theorem runM_moves {l : List TokR} {m : Nat} (hend : ∀ k, m ≤ k → (tokAt l k).kind = 0) : ∀ (f : Nat) (s : Option (List PartR)) (n k deep : Nat) {x : List PartR} {k' : Nat}, runM l f s n k deep = .ok x k' → k ≤ m →
    k' ≤ m ∧ (match s with
      | none => k < k' ∧ x.length + k ≤ k'
      | some y => k ≤ k' ∧ x.length + k ≤ y.length + k')
  | 0, s, n, k, deep, x, k', h, hk => by simp [runM] at h
  | f + 1, some y, n, k, deep, x, k', h, hk => by
    simp only [runM] at h
    split at h
    · cases h
      exact ⟨hk, Nat.le_refl _, Nat.le_refl _⟩
    · rename_i o ho
      have hkm : k < m := by
        rcases Nat.lt_or_ge k m with h1 | h1
        · exact h1
        · exact absurd (hend k h1) (infix_word ho)
      split at h
      · cases h
      · rename_i z k1 hz
        obtain ⟨h1, h2, h3⟩ := runM_moves hend f none _ _ _ hz (by omega)
        split at h
        · cases h
          simp only [List.length_cons, List.length_append]
          exact ⟨h1, by omega, by omega⟩
        · obtain ⟨h4, h5, h6⟩ := runM_moves hend f (some _) _ _ _ h (by omega)
          simp only [List.length_cons, List.length_append] at h6
          exact ⟨h4, by omega, by omega⟩
  | f + 1, none, n, k, deep, x, k', h, hk => by
    have lt : ∀ {j : Nat}, (tokAt l j).kind ≠ 0 → j < m := fun {j} h1 => by
      rcases Nat.lt_or_ge j m with h2 | h2
      · exact h2
      · exact absurd (hend j h2) h1
    simp only [runM] at h
    split at h
    · split at h
      · rename_i h2
        have := lt (j := k) (by omega)
        cases h
        exact ⟨by omega, by omega, by simp; omega⟩
      · split at h
        · rename_i h2
          have := lt (j := k) (by omega)
          cases h
          exact ⟨by omega, by omega, by simp; omega⟩
        · split at h
          · rename_i h2
            have h3 := lt (j := k) (by omega)
            unfold wordR at h
            split at h
            · cases h
              exact ⟨by omega, by omega, by simp; omega⟩
            · split at h
              · cases h
              · split at h
                · cases h
                · split at h
                  · rename_i h5 h6
                    have := lt (j := k + 2) (by omega)
                    cases h
                    exact ⟨by omega, by omega, by simp; omega⟩
                  · cases h
          · split at h
            · cases h
            · rename_i hs
              have h3 := lt (j := k) (sign_kind hs)
              split at h
              · cases h
              · split at h
                · cases h
                · rename_i y k1 hy
                  obtain ⟨h4, h5, h6⟩ := runM_moves hend f none _ _ _ hy (by omega)
                  split at h
                  · cases h
                  · rename_i hs2
                    have h7 := lt (j := k1) (sign_kind hs2)
                    cases h
                    exact ⟨by omega, by omega, by omega⟩
    · split at h
      · split at h
        · rename_i hw
          have h3 := lt (j := k) (word_kind hw)
          split at h
          · cases h
          · split at h
            · cases h
            · rename_i y k1 hy
              obtain ⟨h4, h5, h6⟩ := runM_moves hend f none _ _ _ hy (by omega)
              cases h
              simp only [List.length_cons]
              exact ⟨h4, by omega, by omega⟩
        · exact runM_moves hend f none _ _ _ h hk
      · split at h
        · cases h
        · rename_i y k1 hy
          obtain ⟨h4, h5, h6⟩ := runM_moves hend f none _ _ _ hy hk
          obtain ⟨h7, h8, h9⟩ := runM_moves hend f (some _) _ _ _ h h4
          exact ⟨h7, by omega, by omega⟩

end Go.Proofs.YtefcmijobbgpbaaGreatDoor
