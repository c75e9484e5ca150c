/- What is written is read as the same. Conditions: those of each theorem. -/
import Derived.Test.YtefcmijobbgpbaaGreatDoorExD
import Derived.Test.YtefcmijobbgpbaaGreatDoorExK
namespace Go.Proofs.YtefcmijobbgpbaaGreatDoor

/-- The same token, but for its place. -/
def sameT (x y : TokR) : Prop := x.kind = y.kind ∧ x.s = y.s ∧ x.n = y.n

/-- At a place there stand these tokens. -/
def Stands (l : List TokR) (k : Nat) (s : List TokR) : Prop := ∀ j x, s[j]? = some x → sameT (tokAt l (k + j)) x

theorem Stands.cons {l : List TokR} {k : Nat} {x : TokR} {s : List TokR} (h : Stands l k (x :: s)) : sameT (tokAt l k) x ∧ Stands l (k + 1) s := by
  refine ⟨h 0 x rfl, fun j y hy => ?_⟩
  have := h (j + 1) y hy
  rw [show k + 1 + j = k + (j + 1) by omega]
  exact this

theorem Stands.app {l : List TokR} {k : Nat} {s s' : List TokR} (h : Stands l k (s ++ s')) : Stands l k s ∧ Stands l (k + s.length) s' := by
  refine ⟨fun j x hx => h j x ?_, fun j x hx => ?_⟩
  · have hj : j < s.length := by
      rcases Nat.lt_or_ge j s.length with h1 | h1
      · exact h1
      · rw [List.getElem?_eq_none h1] at hx; cases hx
    rw [List.getElem?_append_left hj]; exact hx
  · have := h (s.length + j) x (by rw [List.getElem?_append_right (by omega), Nat.add_sub_cancel_left]; exact hx)
    rw [show k + s.length + j = k + (s.length + j) by omega]
    exact this

/-! ### Trees that may be written -/
def Ex.well : Ex → Prop
  | .leaf p => isM p = true ∧ p.kind ≤ 3
  | .neg p a => isM p = true ∧ p.kind = 13 ∧ a.well
  | .bin p a b => isM p = true ∧ (4 ≤ p.kind ∧ p.kind ≤ 12) ∧ a.well ∧ b.well

def Ex.deep : Ex → Nat
  | .leaf _ => 1
  | .neg _ a => a.deep + 1
  | .bin _ a b => max a.deep b.deep + 1

theorem isM_range {p : PartR} (h : isM p = true) : 1 ≤ p.kind ∧ p.kind ≤ 13 := by
  unfold isM at h
  split at h
  · omega
  · split at h
    · omega
    · split at h
      · omega
      · simp only [Bool.and_eq_true, decide_eq_true_eq] at h
        omega

theorem growM_well : ∀ {d : Nat} {x r : List PartR} {t : Ex}, growM d x = some (t, r) → t.well ∧ t.deep ≤ d
  | 0, x, r, t, h => by simp [growM] at h
  | d + 1, [], r, t, h => by simp [growM] at h
  | d + 1, p :: x, r, t, h => by
    simp only [growM] at h
    split at h
    · cases h
    · rename_i hm
      have hm : isM p = true := by simpa using hm
      have hr := isM_range hm
      split at h
      · cases h
        exact ⟨⟨hm, by assumption⟩, by simp [Ex.deep]⟩
      · split at h
        · split at h
          · cases h
          · rename_i a x1 ha
            split at h
            · cases h
              have := growM_well ha
              exact ⟨⟨hm, by assumption, this.1⟩, by simp only [Ex.deep]; omega⟩
            · cases h
        · split at h
          · cases h
          · rename_i a x1 ha
            split at h
            · cases h
            · rename_i b x2 hb
              split at h
              · cases h
                have h1 := growM_well ha
                have h2 := growM_well hb
                exact ⟨⟨hm, by omega, h1.1, h2.1⟩, by simp only [Ex.deep]; omega⟩
              · cases h

theorem ba_eq {a b : ByteArray} (h : a.data.toList = b.data.toList) : a = b := by
  cases a; cases b
  simp only at h
  congr 1
  exact Array.toList_inj.1 h

theorem isM_num {p : PartR} (h : isM p = true) (hk : p.kind = 1) : p = numP p.n ∧ 0 ≤ p.n := by
  unfold isM at h
  rw [if_pos hk] at h
  simp only [Bool.and_eq_true, decide_eq_true_eq] at h
  obtain ⟨kd, n, s, st, f⟩ := p
  simp only at h hk
  obtain ⟨⟨⟨h1, h2⟩, h3⟩, h4⟩ := h
  subst hk h4
  exact ⟨by rw [numP, ba_eq (b := ⟨#[]⟩) h2, ba_eq (a := st) (b := ⟨#[]⟩) h3], h1⟩

theorem isM_text {p : PartR} (h : isM p = true) (hk : p.kind = 2) : p = textP p.s ∧ textM p.s = true := by
  unfold isM at h
  rw [if_neg (by omega), if_pos hk] at h
  simp only [Bool.and_eq_true, decide_eq_true_eq] at h
  obtain ⟨kd, n, s, st, f⟩ := p
  simp only at h hk
  obtain ⟨⟨⟨h1, h2⟩, h3⟩, h4⟩ := h
  subst hk h4 h2
  exact ⟨by rw [textP, ba_eq (a := st) (b := ⟨#[]⟩) h3], h1⟩

theorem isM_fieldP {p : PartR} (h : isM p = true) (hk : p.kind = 3) : p = fieldP p.stage p.field := by
  unfold isM at h
  rw [if_neg (by omega), if_neg (by omega), if_pos hk] at h
  simp only [Bool.and_eq_true, decide_eq_true_eq] at h
  obtain ⟨kd, n, s, st, f⟩ := p
  simp only at h hk
  obtain ⟨⟨⟨⟨h1, h2⟩, h3⟩, h4⟩, h5⟩ := h
  subst hk h1
  rw [fieldP, ba_eq (a := s) (b := ⟨#[]⟩) h2]

theorem isM_op {p : PartR} (h : isM p = true) (hk : 4 ≤ p.kind) : p = opP p.kind := by
  unfold isM at h
  rw [if_neg (by omega), if_neg (by omega), if_neg (by omega)] at h
  simp only [Bool.and_eq_true, decide_eq_true_eq] at h
  obtain ⟨kd, n, s, st, f⟩ := p
  simp only at h hk
  obtain ⟨⟨⟨⟨⟨h0, h1⟩, h2⟩, h3⟩, h4⟩, h5⟩ := h
  subst h2 h5
  rw [opP, ba_eq (a := s) (b := ⟨#[]⟩) h3, ba_eq (a := st) (b := ⟨#[]⟩) h4]

/-! ### Operations -/
def PlainT (t : TokR) : Prop := ∀ n : Int, infixM n t = none

theorem infix_same {n : Int} {x y : TokR} (h : sameT x y) : infixM n x = infixM n y := by
  unfold infixM
  obtain ⟨h1, h2, _⟩ := h
  generalize opsL = L
  induction L with
  | nil => rfl
  | cons o r ih => simp only [infixFrom, h1, h2, ih]

theorem plain_same {x y : TokR} (h : sameT x y) (hp : PlainT y) : PlainT x := fun n => (infix_same h).trans (hp n)

theorem plain_end (t : TokR) (h : t.kind = 0) : PlainT t := fun n => by
  cases hi : infixM n t with
  | none => rfl
  | some k => exact absurd h (infix_word hi)

theorem plain_shut : PlainT (signT bShut) := fun n => by
  simp [infixM, infixFrom, opsL, signT, bShut, bAnd, bOr]

theorem op_cases {k : Int} (h : 4 ≤ k ∧ k ≤ 12) : k = 4 ∨ k = 5 ∨ k = 6 ∨ k = 7 ∨ k = 8 ∨ k = 9 ∨ k = 10 ∨ k = 11 ∨ k = 12 := by omega

theorem infix_mid {k : Int} (h : 4 ≤ k ∧ k ≤ 12) : infixM (opAt k).level (midT k) = some k := by
  rcases op_cases h with rfl | rfl | rfl | rfl | rfl | rfl | rfl | rfl | rfl <;> decide

theorem infix_mid_other {k n : Int} (h : 4 ≤ k ∧ k ≤ 12) (hn : n ≠ (opAt k).level) : infixM n (midT k) = none := by
  rcases op_cases h with rfl | rfl | rfl | rfl | rfl | rfl | rfl | rfl | rfl <;>
    (have hn' := fun e : _ = n => hn e.symm
     simp [opAt, opN, opsL] at hn'
     simp [infixM, infixFrom, opsL, midT, opAt, opN, signT, wordT, bAnd, bOr, hn'])

theorem op_level {k : Int} (h : 4 ≤ k ∧ k ≤ 12) : ∃ L : Nat, (opAt k).level = (L : Int) ∧ L ≤ 5 ∧ L ≠ 2 := by
  rcases op_cases h with rfl | rfl | rfl | rfl | rfl | rfl | rfl | rfl | rfl
  · exact ⟨4, rfl, by decide⟩
  · exact ⟨4, rfl, by decide⟩
  · exact ⟨5, rfl, by decide⟩
  · exact ⟨3, rfl, by decide⟩
  · exact ⟨3, rfl, by decide⟩
  · exact ⟨3, rfl, by decide⟩
  · exact ⟨3, rfl, by decide⟩
  · exact ⟨1, rfl, by decide⟩
  · exact ⟨0, rfl, by decide⟩

/-! ### Runs -/
/-- With fuel enough it is read so. -/
def Runs (l : List TokR) (s : Option (List PartR)) (n k deep : Nat) (x : List PartR) (k' : Nat) : Prop := ∃ F, ∀ f, F ≤ f → runM l f s n k deep = .ok x k'

theorem fuel_succ {F f : Nat} (h : F + 1 ≤ f) : ∃ f', f = f' + 1 ∧ F ≤ f' := ⟨f - 1, by omega, by omega⟩

theorem Runs.stop {l : List TokR} {x : List PartR} {n k deep : Nat} (h : infixM n (tokAt l k) = none) : Runs l (some x) n k deep x k :=
  ⟨1, fun f hf => by obtain ⟨f', rfl, _⟩ := fuel_succ hf; simp only [runM, h]⟩

theorem Runs.op3 {l : List TokR} {x y : List PartR} {k deep k' : Nat} {o : Int} (h : infixM 3 (tokAt l k) = some o) (hy : Runs l none 4 (k + 1) deep y k') : Runs l (some x) 3 k deep (opP o :: (x ++ y)) k' := by
  obtain ⟨F, hF⟩ := hy
  refine ⟨F + 1, fun f hf => ?_⟩
  obtain ⟨f', rfl, h1⟩ := fuel_succ hf
  have h2 := hF f' h1
  have h' : infixM ((3 : Nat) : Int) (tokAt l k) = some o := h
  simp only [runM, h', h2, if_pos]

theorem Runs.op {l : List TokR} {x y z : List PartR} {n k deep k' k2 : Nat} {o : Int} (h : infixM n (tokAt l k) = some o) (hn : n ≠ 3) (hy : Runs l none (n + 1) (k + 1) deep y k') (hz : Runs l (some (opP o :: (x ++ y))) n k' deep z k2) : Runs l (some x) n k deep z k2 := by
  obtain ⟨F, hF⟩ := hy
  obtain ⟨G, hG⟩ := hz
  refine ⟨F + G + 1, fun f hf => ?_⟩
  obtain ⟨f', rfl, h1⟩ := fuel_succ hf
  simp only [runM, h, hF f' (by omega), if_neg hn]
  exact hG f' (by omega)

theorem Runs.down {l : List TokR} {x z : List PartR} {n k deep k' k2 : Nat} (h6 : n ≠ 6) (h2 : n ≠ 2) (hx : Runs l none (n + 1) k deep x k') (hz : Runs l (some x) n k' deep z k2) : Runs l none n k deep z k2 := by
  obtain ⟨F, hF⟩ := hx
  obtain ⟨G, hG⟩ := hz
  refine ⟨F + G + 1, fun f hf => ?_⟩
  obtain ⟨f', rfl, h1⟩ := fuel_succ hf
  simp only [runM, if_neg h6, if_neg h2, hF f' (by omega)]
  exact hG f' (by omega)

theorem Runs.pass {l : List TokR} {x : List PartR} {k deep k' : Nat} (h : isWordT (tokAt l k) bNot = false) (hx : Runs l none 3 k deep x k') : Runs l none 2 k deep x k' := by
  obtain ⟨F, hF⟩ := hx
  refine ⟨F + 1, fun f hf => ?_⟩
  obtain ⟨f', rfl, h1⟩ := fuel_succ hf
  rw [runM, if_neg (by decide), if_pos rfl, if_neg (by rw [h]; simp)]
  exact hF f' h1

theorem Runs.not {l : List TokR} {x : List PartR} {k deep k' : Nat} (h : isWordT (tokAt l k) bNot = true) (hd : deep + 1 ≤ 200) (hx : Runs l none 2 (k + 1) (deep + 1) x k') : Runs l none 2 k deep (opP 13 :: x) k' := by
  obtain ⟨F, hF⟩ := hx
  refine ⟨F + 1, fun f hf => ?_⟩
  obtain ⟨f', rfl, h1⟩ := fuel_succ hf
  rw [runM, if_neg (by decide), if_pos rfl, if_pos h, if_neg (by omega), hF f' h1]

theorem sign_of {t : TokR} {s : ByteArray} (h : sameT t (signT s)) : isSignT t s = true := by
  obtain ⟨h1, h2, _⟩ := h
  simp [isSignT, h1, h2, signT]

theorem word_of {t : TokR} {s : ByteArray} (h : sameT t (wordT s)) : isWordT t s = true := by
  obtain ⟨h1, h2, _⟩ := h
  simp [isWordT, h1, h2, wordT]

theorem Runs.bracket {l : List TokR} {x : List PartR} {k deep k' : Nat} (h : sameT (tokAt l k) (signT bOpen)) (hd : deep + 1 ≤ 200) (hx : Runs l none 0 (k + 1) (deep + 1) x k') (hs : sameT (tokAt l k') (signT bShut)) : Runs l none 6 k deep x (k' + 1) := by
  obtain ⟨F, hF⟩ := hx
  refine ⟨F + 1, fun f hf => ?_⟩
  obtain ⟨f', rfl, h1⟩ := fuel_succ hf
  have hk : (tokAt l k).kind = 4 := h.1
  rw [runM, if_pos rfl, if_neg (by omega), if_neg (by omega), if_neg (by omega), if_neg (by rw [sign_of h]; simp), if_neg (by omega), hF f' h1]
  simp only
  rw [if_neg (by rw [sign_of hs]; simp)]

/-- Up to a level, where nothing of these levels stands behind. -/
theorem Runs.up {l : List TokR} {x : List PartR} {k deep k' : Nat} (hnot : isWordT (tokAt l k) bNot = false) : ∀ (i n : Nat), n + i ≤ 6 → Runs l none (n + i) k deep x k' → (∀ m : Nat, n ≤ m → m < n + i → infixM m (tokAt l k') = none) → Runs l none n k deep x k'
  | 0, n, _, h, _ => h
  | i + 1, n, hn, h, hi => by
    have h2 : Runs l none (n + 1) k deep x k' := Runs.up hnot i (n + 1) (by omega) (by rw [show n + 1 + i = n + (i + 1) by omega]; exact h) (fun m h1 h2 => hi m (by omega) (by omega))
    by_cases h22 : n = 2
    · subst h22
      exact Runs.pass hnot h2
    · exact Runs.down (by omega) h22 h2 (Runs.stop (hi n (Nat.le_refl _) (by omega)))

theorem field_word {f : Int} (h0 : 0 ≤ f) (h5 : f ≤ 5) : fieldI (fieldWord f) = f ∧ isWordT (wordT (fieldWord f)) bNot = false := by
  have : f = 0 ∨ f = 1 ∨ f = 2 ∨ f = 3 ∨ f = 4 ∨ f = 5 := by omega
  rcases this with rfl | rfl | rfl | rfl | rfl | rfl <;> decide

theorem stageM_not {s : ByteArray} (h : stageM s = true) : fieldI s < 0 ∧ isWordT (wordT s) bNot = false := by
  unfold stageM at h
  simp only [Bool.and_eq_true, decide_eq_true_eq] at h
  refine ⟨h.1.1.1.2, ?_⟩
  simp [isWordT, wordT, h.2]

theorem isWord_same {x y : TokR} (h : sameT x y) (s : ByteArray) : isWordT x s = isWordT y s := by
  obtain ⟨h1, h2, _⟩ := h
  simp only [isWordT, h1, h2]

/-- A leaf. -/
theorem runs_leaf {l : List TokR} {k deep : Nat} {p : PartR} (hm : isM p = true) (h3 : p.kind ≤ 3) (hs : Stands l k (leafToks p)) : Runs l none 6 k deep [p] (k + (leafToks p).length) ∧ isWordT (tokAt l k) bNot = false := by
  have hr := isM_range hm
  by_cases h1 : p.kind = 1
  · have hp := (isM_num hm h1).1
    rw [leafToks, if_pos h1] at hs ⊢
    obtain ⟨⟨k1, k2, k3⟩, _⟩ := hs.cons
    simp only at k1 k3
    refine ⟨⟨1, fun f hf => ?_⟩, by simp [isWordT, k1]⟩
    obtain ⟨f', rfl, _⟩ := fuel_succ hf
    rw [runM, if_pos rfl, if_pos k1, k3, ← hp]
    rfl
  · by_cases h2 : p.kind = 2
    · have hp := (isM_text hm h2).1
      rw [leafToks, if_neg h1, if_pos h2] at hs ⊢
      obtain ⟨⟨k1, k2, k3⟩, _⟩ := hs.cons
      simp only at k1 k2
      refine ⟨⟨1, fun f hf => ?_⟩, by simp [isWordT, k1]⟩
      obtain ⟨f', rfl, _⟩ := fuel_succ hf
      rw [runM, if_pos rfl, if_neg (by omega), if_pos k1, k2, ← hp]
      rfl
    · have h3' : p.kind = 3 := by omega
      have hp := isM_fieldP hm h3'
      obtain ⟨hf0, hf5, hst⟩ := isM_field hm h3'
      obtain ⟨hw1, hw2⟩ := field_word hf0 hf5
      by_cases he : p.stage.data.toList = []
      · rw [leafToks, if_neg h1, if_neg h2, if_pos he] at hs ⊢
        obtain ⟨hx, _⟩ := hs.cons
        have hn : isWordT (tokAt l k) bNot = false := by rw [isWord_same hx]; exact hw2
        obtain ⟨k1, k2, k3⟩ := hx
        simp only [wordT] at k1 k2
        refine ⟨⟨1, fun f hf => ?_⟩, hn⟩
        obtain ⟨f', rfl, _⟩ := fuel_succ hf
        rw [runM, if_pos rfl, if_neg (by omega), if_neg (by omega), if_pos k1, wordR, k2, hw1, if_pos hf0]
        have : fieldP ⟨#[]⟩ p.field = p := by rw [hp, fieldP, fieldP]; simp only; rw [ba_eq (a := p.stage) (b := ⟨#[]⟩) he]
        rw [this]
        rfl
      · have hsm : stageM p.stage = true := hst.resolve_left he
        obtain ⟨hs1, hs2⟩ := stageM_not hsm
        rw [leafToks, if_neg h1, if_neg h2, if_neg he] at hs ⊢
        obtain ⟨hx, hs'⟩ := hs.cons
        obtain ⟨hy, hs'⟩ := hs'.cons
        obtain ⟨hz, _⟩ := hs'.cons
        have hn : isWordT (tokAt l k) bNot = false := by rw [isWord_same hx]; exact hs2
        have hdot := sign_of hy
        obtain ⟨k1, k2, k3⟩ := hx
        obtain ⟨z1, z2, z3⟩ := hz
        simp only [wordT] at k1 k2 z1 z2
        refine ⟨⟨1, fun f hf => ?_⟩, hn⟩
        obtain ⟨f', rfl, _⟩ := fuel_succ hf
        rw [runM, if_pos rfl, if_neg (by omega), if_neg (by omega), if_pos k1, wordR, k2, if_neg (by omega), if_neg (by rw [hsm]; simp), if_neg (by rw [hdot]; simp), show k + 2 = k + 1 + 1 by omega, z2, hw1, if_pos ⟨z1, hf0⟩, ← hp]
        rfl

mutual
/-- In brackets, or a leaf. -/
theorem runs_false {l : List TokR} : ∀ (t : Ex) (k deep : Nat), t.well → Stands l k (t.toks false) → deep + 2 * t.deep ≤ 200 → Runs l none 6 k deep t.parts (k + (t.toks false).length) ∧ isWordT (tokAt l k) bNot = false
  | .leaf p, k, deep, hw, hs, _ => runs_leaf hw.1 hw.2 hs
  | .neg p a, k, deep, hw, hs, hd => by
    have h : (Ex.neg p a).toks false = signT bOpen :: ((Ex.neg p a).toks true ++ [signT bShut]) := rfl
    rw [h] at hs ⊢
    obtain ⟨h1, hs⟩ := hs.cons
    obtain ⟨h2, hs⟩ := hs.app
    obtain ⟨h3, _⟩ := hs.cons
    have hr := runs_true (.neg p a) (k + 1) (deep + 1) hw h2 (by simp only [Ex.deep] at hd ⊢; omega) (plain_same h3 plain_shut)
    refine ⟨?_, by rw [isWord_same h1]; decide⟩
    have hb := Runs.bracket h1 (by simp only [Ex.deep] at hd; omega) hr h3
    rw [show k + (signT bOpen :: ((Ex.neg p a).toks true ++ [signT bShut])).length = k + 1 + ((Ex.neg p a).toks true).length + 1 by simp; omega]
    exact hb
  | .bin p a b, k, deep, hw, hs, hd => by
    have h : (Ex.bin p a b).toks false = signT bOpen :: ((Ex.bin p a b).toks true ++ [signT bShut]) := rfl
    rw [h] at hs ⊢
    obtain ⟨h1, hs⟩ := hs.cons
    obtain ⟨h2, hs⟩ := hs.app
    obtain ⟨h3, _⟩ := hs.cons
    have hr := runs_true (.bin p a b) (k + 1) (deep + 1) hw h2 (by simp only [Ex.deep] at hd ⊢; omega) (plain_same h3 plain_shut)
    refine ⟨?_, by rw [isWord_same h1]; decide⟩
    have hb := Runs.bracket h1 (by simp only [Ex.deep] at hd; omega) hr h3
    rw [show k + (signT bOpen :: ((Ex.bin p a b).toks true ++ [signT bShut])).length = k + 1 + ((Ex.bin p a b).toks true).length + 1 by simp; omega]
    exact hb
termination_by t => (t.parts.length, 1)

/-- As it is written, with no operation behind. -/
theorem runs_true {l : List TokR} : ∀ (t : Ex) (k deep : Nat), t.well → Stands l k (t.toks true) → deep + 2 * t.deep ≤ 201 → PlainT (tokAt l (k + (t.toks true).length)) → Runs l none 0 k deep t.parts (k + (t.toks true).length)
  | .leaf p, k, deep, hw, hs, _, hp => by
    obtain ⟨h1, h2⟩ := runs_leaf (deep := deep) hw.1 hw.2 hs
    exact Runs.up h2 6 0 (by omega) h1 (fun m _ _ => hp m)
  | .neg p a, k, deep, hw, hs, hd, hp => by
    have h : (Ex.neg p a).toks true = wordT bNot :: a.toks false := rfl
    rw [h] at hs hp ⊢
    obtain ⟨h1, hs⟩ := hs.cons
    have ha := runs_false a (k + 1) (deep + 1) hw.2.2 hs (by simp only [Ex.deep] at hd ⊢; omega)
    have e : k + (wordT bNot :: a.toks false).length = k + 1 + (a.toks false).length := by simp; omega
    rw [e] at hp ⊢
    have h2 := Runs.up ha.2 4 2 (by omega) ha.1 (fun m _ _ => hp m)
    have hnot := Runs.not (word_of h1) (by simp only [Ex.deep] at hd; omega) h2
    have hpp : (Ex.neg p a).parts = opP 13 :: a.parts := by
      rw [Ex.parts, isM_op hw.1 (by have := hw.2.1; omega)]
      rw [hw.2.1]
    rw [hpp]
    have h1' := Runs.down (n := 1) (by omega) (by omega) hnot (Runs.stop (hp 1))
    exact Runs.down (n := 0) (by omega) (by omega) h1' (Runs.stop (hp 0))
  | .bin p a b, k, deep, hw, hs, hd, hp => by
    have h : (Ex.bin p a b).toks true = a.toks false ++ midT p.kind :: b.toks false := rfl
    rw [h] at hs hp ⊢
    obtain ⟨hsa, hs⟩ := hs.app
    obtain ⟨hm, hsb⟩ := hs.cons
    obtain ⟨L, hL, hL5, hL2⟩ := op_level hw.2.1
    have ha := runs_false a k deep hw.2.2.1 hsa (by simp only [Ex.deep] at hd ⊢; omega)
    have hb := runs_false b (k + (a.toks false).length + 1) deep hw.2.2.2 hsb (by simp only [Ex.deep] at hd ⊢; omega)
    have e : k + (a.toks false ++ midT p.kind :: b.toks false).length = k + (a.toks false).length + 1 + (b.toks false).length := by simp; omega
    rw [e] at hp ⊢
    have hmid : infixM L (tokAt l (k + (a.toks false).length)) = some p.kind := by
      rw [infix_same hm, ← hL]; exact infix_mid hw.2.1
    have hmid' : ∀ m : Nat, m ≠ L → infixM m (tokAt l (k + (a.toks false).length)) = none := fun m hne => by
      rw [infix_same hm]
      exact infix_mid_other hw.2.1 (by rw [hL]; omega)
    have ha2 := Runs.up ha.2 (5 - L) (L + 1) (by omega) (by rw [show L + 1 + (5 - L) = 6 by omega]; exact ha.1) (fun m h1 _ => hmid' m (by omega))
    have hb2 := Runs.up hb.2 (5 - L) (L + 1) (by omega) (by rw [show L + 1 + (5 - L) = 6 by omega]; exact hb.1) (fun m _ _ => hp m)
    have hpp : (Ex.bin p a b).parts = opP p.kind :: (a.parts ++ b.parts) := by
      rw [Ex.parts, ← isM_op hw.1 (by have := hw.2.1; omega)]
    rw [hpp]
    have hs2 : Runs l (some a.parts) L (k + (a.toks false).length) deep (opP p.kind :: (a.parts ++ b.parts)) (k + (a.toks false).length + 1 + (b.toks false).length) := by
      by_cases h3 : L = 3
      · subst h3
        exact Runs.op3 hmid hb2
      · exact Runs.op hmid h3 hb2 (Runs.stop (hp L))
    have hL' := Runs.down (by omega) hL2 ha2 hs2
    exact Runs.up ha.2 L 0 (by omega) (by rw [Nat.zero_add]; exact hL') (fun m _ _ => hp m)
termination_by t => (t.parts.length, 0)
decreasing_by all_goals (simp only [Ex.parts, List.length_cons, List.length_append]; first | decreasing_tactic | omega)
end

end Go.Proofs.YtefcmijobbgpbaaGreatDoor
