/- What the document writes of an expression, plainly: it is what the tokens' join is. Conditions: those of each theorem. -/
import Derived.Test.YtefcmijobbgpbaaGreatDoorExWD
import Derived.Test.YtefcmijobbgpbaaGreatDoorExDD
namespace Go.Proofs.YtefcmijobbgpbaaGreatDoor
open Go.RowKit

theorem digit_of {k : Nat} (h : k < 10) : isDigit (UInt8.ofNat (48 + k)) = true ∧ (UInt8.ofNat (48 + k)).toNat = 48 + k := by
  have hc : k = 0 ∨ k = 1 ∨ k = 2 ∨ k = 3 ∨ k = 4 ∨ k = 5 ∨ k = 6 ∨ k = 7 ∨ k = 8 ∨ k = 9 := by omega
  rcases hc with rfl | rfl | rfl | rfl | rfl | rfl | rfl | rfl | rfl | rfl <;> decide

theorem dec_props : ∀ (u : Nat), (∀ d ∈ Lib.decDigits u, isDigit d = true) ∧ numVal (Lib.decDigits u) = u ∧ Lib.decDigits u ≠ [] ∧ (u ≠ 0 → (Lib.decDigits u).head? ≠ some 48) ∧ (u = 0 → (Lib.decDigits u).length = 1) := by
  intro u
  induction u using Nat.strongRecOn with
  | ind u ih =>
    rw [Lib.decDigits]
    by_cases h : u < 10
    · rw [dif_pos h]
      obtain ⟨h1, h2⟩ := digit_of h
      refine ⟨by simpa using h1, ?_, by simp, fun h0 => ?_, fun _ => rfl⟩
      · simp only [numVal, List.foldl_cons, List.foldl_nil]
        omega
      · simp only [List.head?_cons, ne_eq, Option.some.injEq]
        intro e
        have := congrArg UInt8.toNat e
        rw [h2] at this
        have h48 : (48 : UInt8).toNat = 48 := rfl
        omega
    · rw [dif_neg h]
      obtain ⟨i1, i2, i3, i4, _⟩ := ih (u / 10) (by omega)
      obtain ⟨h1, h2⟩ := digit_of (k := u % 10) (by omega)
      refine ⟨fun d hd => ?_, ?_, by simp, fun _ => ?_, fun h0 => by omega⟩
      · rcases List.mem_append.1 hd with hd | hd
        · exact i1 d hd
        · rw [List.mem_singleton] at hd
          rw [hd]
          exact h1
      · rw [numVal_snoc, i2, h2]
        omega
      · have h4 := i4 (by omega)
        cases hq : Lib.decDigits (u / 10) with
        | nil => exact absurd hq i3
        | cons c r => rw [hq] at h4; simpa using h4

theorem lex_num {u : Nat} (h : u ≤ 9223372036854775807) : lexOne (Lib.decDigits u) = some (⟨2, [], u⟩, (Lib.decDigits u).length) := by
  obtain ⟨h1, h2, h3, h4, h5⟩ := dec_props u
  have hsp := span_of_all (p := isDigit) _ h1
  cases hd : Lib.decDigits u with
  | nil => exact absurd hd h3
  | cons c r =>
    rw [hd] at h1 h2 h4 h5 hsp
    have hc := h1 c (by simp)
    have hl : ¬ isLetter c = true := by
      simp only [isDigit, isLetter, Bool.and_eq_true, decide_eq_true_eq] at hc ⊢
      omega
    rw [lexOne, if_neg hl, if_pos hc, hsp, List.take_length, h2, if_pos]
    refine ⟨h, ?_⟩
    by_cases h0 : u = 0
    · exact .inr (h5 h0)
    · left
      have := h4 h0
      simpa using this

theorem wtn_num {n : Int} (h0 : 0 ≤ n) (h1 : n ≤ 9223372036854775807) : wtn ⟨2, ⟨#[]⟩, n, 0⟩ = some (Lib.itoa n) := by
  have hi : Lib.itoa n = Lib.decDigits n.toNat := by unfold Lib.itoa; rw [if_neg (by omega)]
  have hl := lex_num (u := n.toNat) (by omega)
  show (match lexOne (Lib.itoa n) with
    | some (t, k) => if k = (Lib.itoa n).length ∧ (t.kind : Int) = 2 ∧ t.s = (⟨#[]⟩ : ByteArray).data.toList ∧ (t.n : Int) = n then some (Lib.itoa n) else none
    | none => none) = _
  rw [hi, hl]
  dsimp only
  rw [if_pos ⟨rfl, rfl, rfl, by omega⟩]

/-- The words of tokens that may be. -/
def candT (x : TokR) : List UInt8 := cand x.kind x.s.data.toList x.n

theorem wtn_cand {x : TokR} (h : (wtn x).isSome = true) : wtn x = some (candT x) := by
  have h2 : wtn x = (match lexOne (candT x) with
    | some (t, k) => if k = (candT x).length ∧ (t.kind : Int) = x.kind ∧ t.s = x.s.data.toList ∧ (t.n : Int) = x.n then some (candT x) else none
    | none => none) := rfl
  rw [h2] at h ⊢
  split at h
  · split at h
    · rename_i hc
      rw [if_pos hc]
    · cases h
  · cases h

theorem wrAll_cand : ∀ (l : List TokR), (∀ x ∈ l, (wtn x).isSome = true) → wrAll l = some (l.map candT)
  | [], _ => rfl
  | x :: r, h => by
    simp only [wrAll, wtn_cand (h x (by simp)), wrAll_cand r (fun y hy => h y (by simp [hy])), List.map_cons]

theorem joinW_cons {w : List UInt8} {r : List (List UInt8)} (h : r ≠ []) : joinW (w :: r) = w ++ 32 :: joinW r := by
  cases r with
  | nil => exact absurd rfl h
  | cons v r => rfl

theorem joinW_app : ∀ (a b : List (List UInt8)), a ≠ [] → b ≠ [] → joinW (a ++ b) = joinW a ++ 32 :: joinW b
  | [], _, h, _ => absurd rfl h
  | [w], b, _, hb => by
    rw [List.singleton_append, joinW_cons hb]
    rfl
  | w :: v :: r, b, _, hb => by
    rw [List.cons_append, joinW_cons (by simp), joinW_app (v :: r) b (by simp) hb, joinW_cons (w := w) (r := v :: r) (by simp)]
    simp

/-- As the document writes it. -/
def sp3 : ByteArray := ⟨#[32, 46, 32]⟩
def sNot : ByteArray := ⟨#[110, 111, 116, 32]⟩
def sSp : ByteArray := ⟨#[32]⟩
def sOpen : ByteArray := ⟨#[40, 32]⟩
def sShut : ByteArray := ⟨#[32, 41]⟩
def sQ : ByteArray := ⟨#[39]⟩
def leafB (p : PartR) : ByteArray :=
  if p.kind = 1 then ⟨(Lib.itoa p.n).toArray⟩
  else if p.kind = 2 then (sQ ++ p.s) ++ sQ
  else if p.stage.data.toList = [] then fieldWord p.field else (p.stage ++ sp3) ++ fieldWord p.field
def fenceB (outer : Bool) (l : ByteArray) : ByteArray := if outer then l else (sOpen ++ l) ++ sShut
def Ex.textB : Ex → Bool → ByteArray
  | .leaf p, _ => leafB p
  | .neg _ a, outer => fenceB outer (sNot ++ a.textB false)
  | .bin p a b, outer => fenceB outer ((((a.textB false ++ sSp) ++ (opAt p.kind).sign) ++ sSp) ++ b.textB false)

theorem ba_app (a b : ByteArray) : (a ++ b).data.toList = a.data.toList ++ b.data.toList := by simp [ByteArray.data_append]

theorem cand_word (s : ByteArray) : candT (wordT s) = s.data.toList := rfl
theorem cand_sign (s : ByteArray) : candT (signT s) = s.data.toList := rfl
theorem cand_mid (k : Int) : candT (midT k) = (opAt k).sign.data.toList := by unfold midT; split <;> rfl

theorem fence_text (o : Bool) (l : List TokR) (t : ByteArray) (hne : l ≠ []) (h : joinW (l.map candT) = t.data.toList) : joinW ((fenced o l).map candT) = (fenceB o t).data.toList := by
  cases o with
  | true => exact h
  | false =>
    show joinW (candT (signT bOpen) :: (l ++ [signT bShut]).map candT) = ((sOpen ++ t) ++ sShut).data.toList
    rw [List.map_append, joinW_cons (by simp), joinW_app _ _ (by simpa using hne) (by simp), h, ba_app, ba_app]
    simp [cand_sign, bOpen, bShut, sOpen, sShut, joinW]

theorem text_toks : ∀ (t : Ex) (o : Bool), joinW ((t.toks o).map candT) = (t.textB o).data.toList
  | .leaf p, o => by
    show joinW ((leafToks p).map candT) = (leafB p).data.toList
    unfold leafToks leafB
    split
    · show joinW [candT ⟨2, ⟨#[]⟩, p.n, 0⟩] = _
      rfl
    · split
      · show joinW [candT ⟨3, p.s, 0, 0⟩] = _
        rw [ba_app, ba_app]
        simp [joinW, candT, cand, sQ]
      · split
        · rfl
        · show joinW [candT (wordT p.stage), candT (signT bDot), candT (wordT (fieldWord p.field))] = _
          rw [ba_app, ba_app]
          simp [joinW, cand_word, cand_sign, bDot, sp3]
  | .neg p a, o => by
    refine fence_text o _ _ (by simp) ?_
    have hp := toks_pos a false
    rw [List.map_cons, joinW_cons (by intro e; have := congrArg List.length e; simp at this; rw [this] at hp; simp at hp), text_toks a false, ba_app]
    simp [cand_word, bNot, sNot]
  | .bin p a b, o => by
    refine fence_text o _ _ (by simp) ?_
    have hp := toks_pos a false
    have hp2 := toks_pos b false
    rw [List.map_append, List.map_cons, joinW_app _ _ (by intro e; have := congrArg List.length e; simp at this; rw [this] at hp; simp at hp) (by simp), joinW_cons (by intro e; have := congrArg List.length e; simp at this; rw [this] at hp2; simp at hp2), text_toks a false, text_toks b false, cand_mid, ba_app, ba_app, ba_app, ba_app]
    simp [sSp]

theorem whole_num {x : List PartR} {t : Ex} (hw : wholeM x = some t) (hok : ∀ p ∈ x, p.ok) : ∀ p ∈ t.parts, NumW p := by
  intro p hp hk
  have hm := wholeM_good hw p hp
  have hx : p ∈ x := by rw [(wholeM_parts hw).1]; exact hp
  obtain ⟨_, h0⟩ := isM_num hm hk
  rw [wtn_num h0 (hok p hx).2.1]
  rfl

/-- What is written is what the document writes. -/
theorem write_text {x : List PartR} {t : Ex} (hw : wholeM x = some t) (hok : ∀ p ∈ x, p.ok) : writeM x = .ok (t.textB true).data.toList := by
  have hwell := (growM_well (wholeM_grow hw)).1
  have hl := wholeM_parts hw
  have hnum := whole_num hw hok
  obtain ⟨b, hb⟩ := join_written hwell (by rw [← hl.1]; exact hl.2) hnum
  unfold writeM
  rw [hw]
  show joinM (t.toks true) = _
  rw [hb]
  have hwr := wrAll_cand (t.toks true) (toks_wtn t true hwell hnum)
  have hpos := toks_pos t true
  obtain ⟨q, hq⟩ : ∃ q, (t.toks true).length = q + 1 := ⟨(t.toks true).length - 1, by omega⟩
  have hlast : (t.toks true)[q]? = some ((t.toks true)[q]'(by omega)) := List.getElem?_eq_getElem _
  have hj := jm_not hq hlast (toks_kind t true hwell _ (List.getElem_mem _))
  rw [hb] at hj
  unfold joinCore at hj
  split at hj
  · cases hj
  · rw [hwr] at hj
    simp only at hj
    split at hj
    · cases hj
    · cases hj
      rw [text_toks]

end Go.Proofs.YtefcmijobbgpbaaGreatDoor
