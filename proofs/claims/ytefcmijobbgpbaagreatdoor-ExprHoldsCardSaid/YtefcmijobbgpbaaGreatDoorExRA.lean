/- Which words may name a stage, plainly, as the document has it. Conditions: those of each theorem. -/
import Derived.Test.YtefcmijobbgpbaaGreatDoorExA
import Derived.Test.YtefcmijobbgpbaaGreatDoorT5
namespace Go.Proofs.YtefcmijobbgpbaaGreatDoor
open Go.RowKit

/-- A name. -/
def nameM (s : ByteArray) : Bool := decide (s.data.toList ≠ []) && decide (s.size ≤ 32) && s.data.toList.all isAlnum
def keyM (s : ByteArray) : Bool := decide (0 ≤ fieldI s) || (decide (s.data.toList = bOr.data.toList) || (decide (s.data.toList = bAnd.data.toList) || decide (s.data.toList = bNot.data.toList)))
def headM (s : ByteArray) : Bool := match s.data.toList with
  | [] => false
  | c :: _ => decide (97 ≤ c.toNat)
def refStageM (s : ByteArray) : Bool := nameM s && headM s && !keyM s

theorem lexOne_word {l : List UInt8} {t : Tok} {k : Nat} (h : lexOne l = some (t, k)) (hk : t.kind = 1) : ∃ c r, l = c :: r ∧ isLetter c = true ∧ spanN isAlnum l ≤ 32 ∧ t.s = l.take (spanN isAlnum l) ∧ k = spanN isAlnum l := by
  cases l with
  | nil => simp [lexOne] at h
  | cons c r =>
    simp only [lexOne] at h
    split at h
    · rename_i hc
      split at h
      · rename_i hs
        cases h
        exact ⟨c, r, rfl, hc, hs, rfl, rfl⟩
      · cases h
    · split at h
      · split at h
        · cases h; cases hk
        · cases h
      · split at h
        · split at h
          · cases h; cases hk
          · cases h
        · split at h
          · split at h
            · cases h; cases hk
            · split at h
              · cases h
              · cases h; cases hk
          · cases h

theorem span_full {p : UInt8 → Bool} : ∀ (l : List UInt8), spanN p l = l.length → ∀ c ∈ l, p c = true := fun l h => by
  have h1 := span_all (p := p) l
  rw [h, List.take_length] at h1
  exact h1

theorem span_of_all {p : UInt8 → Bool} : ∀ (l : List UInt8), (∀ c ∈ l, p c = true) → spanN p l = l.length
  | [], _ => rfl
  | c :: r, h => by rw [span_pos (h c (by simp)), span_of_all r (fun d hd => h d (by simp [hd]))]; rfl

theorem wordTok_of {s : ByteArray} {t : Tok} {a : Nat} (h : toksOf s = .ok [(t, a)]) (hk : t.kind = 1) (hs : t.s = s.data.toList) : nameM s = true ∧ headM s = true := by
  obtain ⟨E, W, h0, h1, _, _⟩ := lay_of h
  obtain ⟨t', a', e, _, _, _, h4, h5, _⟩ := h1 0 (by simp)
  cases e
  obtain ⟨c, r, hl, hc, h32, hts, hsp⟩ := lexOne_word h5 hk
  rw [← hsp, List.take_length, hs] at hts
  rw [← hts] at hl h32 hsp
  have hall := span_full _ hsp.symm
  refine ⟨?_, ?_⟩
  · unfold nameM
    simp only [Bool.and_eq_true, decide_eq_true_eq, List.all_eq_true]
    refine ⟨⟨by rw [hl]; simp, ?_⟩, hall⟩
    have : s.size = s.data.toList.length := by rw [Array.length_toList]; rfl
    omega
  · unfold headM
    rw [hl]
    simp only [isLetter, Bool.and_eq_true, decide_eq_true_eq] at hc ⊢
    exact hc.1

theorem alnum_letter {c : UInt8} (h : isAlnum c = true) (h97 : 97 ≤ c.toNat) : isLetter c = true := by
  simp only [isAlnum, isLetter, isDigit, Bool.or_eq_true, Bool.and_eq_true, decide_eq_true_eq] at h ⊢
  omega

theorem wordTok_back {s : ByteArray} (hn : nameM s = true) (hh : headM s = true) : ∃ t a, toksOf s = .ok [(t, a)] ∧ t.kind = 1 ∧ t.s = s.data.toList := by
  unfold nameM at hn
  simp only [Bool.and_eq_true, decide_eq_true_eq, List.all_eq_true] at hn
  obtain ⟨⟨hne, h32⟩, hall⟩ := hn
  have hsz : s.size = s.data.toList.length := by rw [Array.length_toList]; rfl
  have hsp := span_of_all _ hall
  have hlex : lexOne s.data.toList = some (⟨1, s.data.toList, 0⟩, s.data.toList.length) := by
    unfold headM at hh
    cases hl : s.data.toList with
    | nil => exact absurd hl hne
    | cons c r =>
      rw [hl] at hh hall hsp hsz
      simp only [decide_eq_true_eq] at hh
      have hc := alnum_letter (hall c (by simp)) hh
      rw [lexOne, if_pos hc, hsp, if_pos (by omega), List.take_length]
  obtain ⟨ys, h1, h2⟩ := toks_join (ts := [(s.data.toList, ⟨1, s.data.toList, 0⟩)]) (by simpa using hlex) (by simp)
  have e : (⟨(joinW (List.map (fun x : List UInt8 × Tok => x.1) [(s.data.toList, ⟨1, s.data.toList, 0⟩)])).toArray⟩ : ByteArray) = s := by simp [joinW]
  rw [e] at h1
  simp only [List.map_cons, List.map_nil] at h2
  match ys, h2 with
  | [], h2 => simp at h2
  | [(t, a)], h2 =>
    simp only [List.map_cons, List.map_nil, List.cons.injEq] at h2
    exact ⟨t, a, h1, by rw [h2.1], by rw [h2.1]⟩
  | _ :: _ :: _, h2 => simp at h2

/-- As the document has it. -/
theorem stageM_ref (s : ByteArray) : stageM s = refStageM s := by
  have hkey : (!keyM s) = (decide (fieldI s < 0) && (decide (s.data.toList ≠ bOr.data.toList) && (decide (s.data.toList ≠ bAnd.data.toList) && decide (s.data.toList ≠ bNot.data.toList)))) := by
    unfold keyM
    have : decide (fieldI s < 0) = !decide (0 ≤ fieldI s) := by
      by_cases h : 0 ≤ fieldI s
      · simp [h]
      · simp [h]; omega
    rw [this]
    simp only [Bool.not_or, ne_eq, decide_not]
  have hA : ((match toksOf s with
    | .ok [(t, _)] => decide (t.kind = 1) && decide (t.s = s.data.toList)
    | _ => false) && decide (s.size ≤ 262144)) = (nameM s && headM s) := by
    apply Bool.eq_iff_iff.2
    constructor
    · intro h
      rw [Bool.and_eq_true] at h
      obtain ⟨h, _⟩ := h
      split at h
      · rename_i t a ht
        simp only [Bool.and_eq_true, decide_eq_true_eq] at h
        obtain ⟨h1, h2⟩ := wordTok_of ht h.1 h.2
        rw [h1, h2]
        rfl
      · cases h
    · intro h
      rw [Bool.and_eq_true] at h
      obtain ⟨t, a, ht, h1, h2⟩ := wordTok_back h.1 h.2
      have hs : s.size ≤ 32 := by
        have := h.1
        unfold nameM at this
        simp only [Bool.and_eq_true, decide_eq_true_eq] at this
        exact this.1.2
      simp [ht, h1, h2, show s.size ≤ 262144 by omega]
  unfold refStageM stageM
  rw [hkey, ← hA]
  simp only [Bool.and_assoc]
  rfl

end Go.Proofs.YtefcmijobbgpbaaGreatDoor
