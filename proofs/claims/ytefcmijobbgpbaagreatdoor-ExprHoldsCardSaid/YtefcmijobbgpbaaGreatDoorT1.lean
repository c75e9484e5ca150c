/- T1: contracts and plain laws of tokens, carried over from another seat. Conditions: those of each theorem. -/
import Derived.Lib.ItoaNum
import Derived.Test.YtefcmijobbgpbaaGreatDoorProg
import Derived.Test.YtefcmijobbgpbaaGreatDoorT0
import Derived.ProofKit
import Derived.Lib.Bytealg
import Derived.Handy
import Derived.Test.YtefcmijobbgpbaaGreatDoorShelf

set_option maxRecDepth 100000

namespace Go.Proofs.YtefcmijobbgpbaaGreatDoor

def isLetter (c : UInt8) : Bool := decide (97 ≤ c.toNat) && decide (c.toNat ≤ 122)
def isDigit (c : UInt8) : Bool := decide (48 ≤ c.toNat) && decide (c.toNat ≤ 57)
def isBlank (c : UInt8) : Bool := c == 32 || c == 10
def isSign (c : UInt8) : Bool := [40, 41, 58, 59, 46, 43, 45, 42, 60, 61, 33].contains c
def isAlnum (c : UInt8) : Bool := isLetter c || isDigit c
def inText (c : UInt8) : Bool := !(c == 39 || c == 10)

structure Tok where
  kind : Nat
  s : List UInt8
  n : Nat

def spanN (p : UInt8 → Bool) (l : List UInt8) : Nat := (l.takeWhile p).length
def numVal (ds : List UInt8) : Nat := ds.foldl (fun n d => n * 10 + (d.toNat - 48)) 0

/-- The token at the head of a text, and how many bytes it has. -/
def lexOne : List UInt8 → Option (Tok × Nat)
  | [] => none
  | c :: r =>
    if isLetter c = true then
      if spanN isAlnum (c :: r) ≤ 32 then some (⟨1, (c :: r).take (spanN isAlnum (c :: r)), 0⟩, spanN isAlnum (c :: r)) else none
    else if isDigit c = true then
      if numVal ((c :: r).take (spanN isDigit (c :: r))) ≤ 9223372036854775807 ∧ (c ≠ 48 ∨ spanN isDigit (c :: r) = 1) then
        some (⟨2, [], numVal ((c :: r).take (spanN isDigit (c :: r)))⟩, spanN isDigit (c :: r)) else none
    else if c = 39 then
      if (r.drop (spanN inText r)).head? = some 39 ∧ spanN inText r ≤ 256 then some (⟨3, r.take (spanN inText r), 0⟩, spanN inText r + 2) else none
    else if isSign c = true then
      if (c = 60 ∨ c = 61 ∨ c = 33) ∧ r.head? = some 61 then some (⟨4, [c, 61], 0⟩, 2)
      else if c = 33 then none else some (⟨4, [c], 0⟩, 1)
    else none

theorem spanN_le (p : UInt8 → Bool) (l : List UInt8) : spanN p l ≤ l.length := (List.takeWhile_sublist p).length_le
theorem take_span (p : UInt8 → Bool) (l : List UInt8) : l.take (spanN p l) = l.takeWhile p := by
  have h : l.takeWhile p <+: l := List.takeWhile_prefix p
  exact (List.prefix_iff_eq_take.1 h).symm

theorem span_append (p : UInt8 → Bool) : ∀ (l m : List UInt8), (∀ c, m.head? = some c → p c = false) → spanN p (l ++ m) = spanN p l
  | [], [], _ => rfl
  | [], c :: m, h => by simp [spanN, h c rfl]
  | a :: l, m, h => by
    have ih := span_append p l m h
    unfold spanN at *
    simp only [List.cons_append, List.takeWhile_cons]
    split
    · simp [ih]
    · rfl

theorem span_pos {p : UInt8 → Bool} {c : UInt8} {r : List UInt8} (h : p c = true) : spanN p (c :: r) = spanN p r + 1 := by simp [spanN, h]

/-- What a token takes is there. -/
theorem lexOne_len {l : List UInt8} {t : Tok} {k : Nat} (h : lexOne l = some (t, k)) : 1 ≤ k ∧ k ≤ l.length := by
  cases l with
  | nil => simp [lexOne] at h
  | cons c r =>
    simp only [lexOne] at h
    split at h
    · rename_i hc
      split at h
      · cases h
        have : isAlnum c = true := by simp [isAlnum, hc]
        exact ⟨by rw [span_pos this]; omega, spanN_le _ _⟩
      · cases h
    · split at h
      · rename_i hc
        split at h
        · cases h
          exact ⟨by rw [span_pos hc]; omega, spanN_le _ _⟩
        · cases h
      · split at h
        · split at h
          · rename_i hq
            cases h
            have h1 : (r.drop (spanN inText r)) ≠ [] := by
              intro e
              rw [e] at hq
              cases hq.1
            have h2 : spanN inText r < r.length := by
              rcases Nat.lt_or_ge (spanN inText r) r.length with h | h
              · exact h
              · exact absurd (List.drop_eq_nil_of_le h) h1
            refine ⟨by omega, ?_⟩
            simp only [List.length_cons]
            omega
          · cases h
        · split at h
          · split at h
            · rename_i hq
              cases h
              cases r with
              | nil => cases hq.2
              | cons d r => exact ⟨by omega, by simp⟩
            · split at h
              · cases h
              · cases h
                exact ⟨by omega, by simp⟩
          · cases h

/-- Behind a token's bytes what is put behind them changes nothing, if it begins with a blank. -/
theorem lexOne_append {l m : List UInt8} {t : Tok} (hm : ∀ c, m.head? = some c → isBlank c = true) (h : lexOne l = some (t, l.length)) : lexOne (l ++ m) = some (t, l.length) := by
  cases l with
  | nil => simp [lexOne] at h
  | cons c r =>
    have ha : ∀ d, m.head? = some d → isAlnum d = false := by
      intro d hd
      have := hm d hd
      simp only [isBlank, Bool.or_eq_true, beq_iff_eq] at this
      rcases this with rfl | rfl <;> decide
    have hdg : ∀ d, m.head? = some d → isDigit d = false := by
      intro d hd
      have := hm d hd
      simp only [isBlank, Bool.or_eq_true, beq_iff_eq] at this
      rcases this with rfl | rfl <;> decide
    simp only [lexOne, List.cons_append] at h ⊢
    split at h
    · rename_i hc
      split at h
      · rename_i hk
        have e := span_append isAlnum (c :: r) m ha
        rw [List.cons_append] at e
        simp only [Option.some.injEq, Prod.mk.injEq] at h
        rw [if_pos hc, e, if_pos hk, ← h.1, h.2]
        simp
      · cases h
    · rename_i hc
      rw [if_neg hc]
      split at h
      · rename_i hd
        split at h
        · rename_i hk
          have e := span_append isDigit (c :: r) m hdg
          rw [List.cons_append] at e
          simp only [Option.some.injEq, Prod.mk.injEq] at h
          have e2 : (c :: (r ++ m)).take (c :: r).length = c :: r := by simp
          rw [if_pos hd, e]
          rw [h.2] at hk ⊢
          rw [e2]
          have e3 : (c :: r).take (c :: r).length = c :: r := by simp
          rw [e3] at hk
          rw [if_pos hk, ← h.1, h.2, e3]
        · cases h
      · rename_i hd
        rw [if_neg hd]
        split at h
        · rename_i hq
          split at h
          · rename_i hk
            simp only [Option.some.injEq, Prod.mk.injEq] at h
            have hlen : spanN inText r + 1 = r.length := by have := h.2; simp at this; omega
            have hs : spanN inText (r ++ m) = spanN inText r := by
              obtain ⟨x, hx⟩ : ∃ x, r.drop (spanN inText r) = [x] := List.length_eq_one_iff.1 (by rw [List.length_drop]; omega)
              have hx39 : x = 39 := by rw [hx] at hk; simpa using hk.1
              have hr : r = r.take (spanN inText r) ++ [39] := by
                have := (List.take_append_drop (spanN inText r) r).symm
                rw [hx, hx39] at this
                exact this
              have e1 : spanN inText (r.take (spanN inText r) ++ ([39] ++ m)) = spanN inText (r.take (spanN inText r)) := span_append _ _ _ (by intro d hd'; simp at hd'; subst hd'; decide)
              have e2 : spanN inText (r.take (spanN inText r) ++ [39]) = spanN inText (r.take (spanN inText r)) := span_append _ _ _ (by intro d hd'; simp at hd'; subst hd'; decide)
              rw [← List.append_assoc, ← hr] at e1
              rw [← hr] at e2
              rw [e1, ← e2]
            rw [if_pos hq, hs]
            have e4 : (r ++ m).drop (spanN inText r) = r.drop (spanN inText r) ++ m := List.drop_append_of_le_length (by omega)
            have e5 : ((r ++ m).drop (spanN inText r)).head? = some 39 := by
              rw [e4]
              cases hdr : r.drop (spanN inText r) with
              | nil => rw [hdr] at hk; cases hk.1
              | cons y ys => rw [hdr] at hk; simpa using hk.1
            have e6 : (r ++ m).take (spanN inText r) = r.take (spanN inText r) := List.take_append_of_le_length (by omega)
            rw [if_pos ⟨e5, hk.2⟩, e6, ← h.1, h.2]
          · cases h
        · rename_i hq
          rw [if_neg hq]
          split at h
          · rename_i hsg
            rw [if_pos hsg]
            split at h
            · rename_i hk
              cases r with
              | nil => cases hk.2
              | cons d r =>
                simp only [List.head?_cons, Option.some.injEq] at hk
                simp only [Option.some.injEq, Prod.mk.injEq] at h
                rw [if_pos ⟨hk.1, by simp [hk.2]⟩, ← h.1, ← h.2]
            · rename_i hk
              split at h
              · cases h
              · rename_i h33
                simp only [Option.some.injEq, Prod.mk.injEq] at h
                have hr : r = [] := by
                  have h2 := h.2
                  cases r with
                  | nil => rfl
                  | cons d r => simp only [List.length_cons] at h2; omega
                subst hr
                rw [if_neg, if_neg h33, ← h.1]
                · rfl
                · intro hx
                  cases m with
                  | nil => cases hx.2
                  | cons d m =>
                    have := hm d rfl
                    simp only [List.nil_append, List.head?_cons, Option.some.injEq] at hx
                    rw [hx.2] at this
                    revert this
                    decide
          · cases h

theorem span_take (p : UInt8 → Bool) : ∀ (l : List UInt8), spanN p (l.take (spanN p l)) = spanN p l
  | [] => rfl
  | a :: l => by
    cases h : p a with
    | false =>
      have : spanN p (a :: l) = 0 := by simp [spanN, h]
      rw [this]; rfl
    | true =>
      rw [span_pos h, List.take_succ_cons, span_pos h, span_take p l]

theorem span_all {p : UInt8 → Bool} (l : List UInt8) : ∀ c ∈ l.take (spanN p l), p c = true := by
  rw [take_span]
  intro c hc
  exact List.all_eq_true.1 List.all_takeWhile c hc

/-- A token's own bytes are it. -/
theorem lexOne_take {l : List UInt8} {t : Tok} {k : Nat} (h : lexOne l = some (t, k)) : lexOne (l.take k) = some (t, k) := by
  cases l with
  | nil => simp [lexOne] at h
  | cons c r =>
    obtain ⟨k, rfl⟩ : ∃ j, k = j + 1 := ⟨k - 1, by have := (lexOne_len h).1; omega⟩
    rw [List.take_succ_cons]
    simp only [lexOne] at h ⊢
    split at h
    · rename_i hc
      rw [if_pos hc]
      split at h
      · rename_i hk
        simp only [Option.some.injEq, Prod.mk.injEq] at h
        have e : c :: r.take k = (c :: r).take (spanN isAlnum (c :: r)) := by rw [h.2, List.take_succ_cons]
        rw [e, span_take, if_pos hk, List.take_take, Nat.min_self, ← h.1, h.2]
      · cases h
    · rename_i hc
      rw [if_neg hc]
      split at h
      · rename_i hd
        rw [if_pos hd]
        split at h
        · rename_i hk
          simp only [Option.some.injEq, Prod.mk.injEq] at h
          have e : c :: r.take k = (c :: r).take (spanN isDigit (c :: r)) := by rw [h.2, List.take_succ_cons]
          rw [e, span_take, List.take_take, Nat.min_self, if_pos hk, ← h.1, h.2]
        · cases h
      · rename_i hd
        rw [if_neg hd]
        split at h
        · rename_i hq
          rw [if_pos hq]
          split at h
          · rename_i hk
            simp only [Option.some.injEq, Prod.mk.injEq] at h
            have hk2 : k = spanN inText r + 1 := by omega
            subst hk2
            have hlt : spanN inText r < r.length := by
              rcases Nat.lt_or_ge (spanN inText r) r.length with h' | h'
              · exact h'
              · rw [List.drop_eq_nil_of_le h'] at hk; cases hk.1
            have e1 : r.take (spanN inText r + 1) = r.take (spanN inText r) ++ [39] := by
              have h39 : r[spanN inText r] = 39 := by
                have := hk.1
                rw [List.head?_drop, List.getElem?_eq_getElem hlt] at this
                simpa using this
              rw [List.take_succ_eq_append_getElem hlt, h39]
            have e2 : spanN inText (r.take (spanN inText r + 1)) = spanN inText r := by
              rw [e1, span_append _ _ _ (by intro d hd'; simp at hd'; subst hd'; decide), span_take]
            have hlen : (r.take (spanN inText r)).length = spanN inText r := by rw [List.length_take]; omega
            have e3 : ((r.take (spanN inText r + 1)).drop (spanN inText r)).head? = some 39 := by
              rw [e1, List.drop_append_of_le_length (by omega)]
              rw [List.drop_eq_nil_of_le (by omega)]
              rfl
            rw [e2, if_pos ⟨e3, hk.2⟩, List.take_take, ← h.1]
            have : min (spanN inText r) (spanN inText r + 1) = spanN inText r := by omega
            rw [this]
          · cases h
        · rename_i hq
          rw [if_neg hq]
          split at h
          · rename_i hsg
            rw [if_pos hsg]
            split at h
            · rename_i hk
              cases r with
              | nil => cases hk.2
              | cons d r =>
                simp only [List.head?_cons, Option.some.injEq] at hk
                simp only [Option.some.injEq, Prod.mk.injEq] at h
                have : k = 1 := by omega
                subst this
                rw [if_pos ⟨hk.1, by simp [hk.2]⟩, ← h.1]
            · rename_i hk
              split at h
              · cases h
              · rename_i h33
                simp only [Option.some.injEq, Prod.mk.injEq] at h
                have : k = 0 := by omega
                subst this
                rw [if_neg (by simp), if_neg h33, ← h.1]
          · cases h

theorem digit_val {d : UInt8} (h : isDigit d = true) : 48 ≤ d.toNat ∧ d.toNat ≤ 57 := by
  simpa [isDigit] using h

theorem numVal_snoc (ds : List UInt8) (d : UInt8) : numVal (ds ++ [d]) = numVal ds * 10 + (d.toNat - 48) := by simp [numVal, List.foldl_append]

theorem numVal_mono_start : ∀ (ds : List UInt8) (n : Nat), n ≤ ds.foldl (fun n d => n * 10 + (d.toNat - 48)) n
  | [], n => Nat.le_refl _
  | d :: ds, n => by
    have := numVal_mono_start ds (n * 10 + (d.toNat - 48))
    simp only [List.foldl_cons]
    omega

theorem numVal_pos {d : UInt8} {ds : List UInt8} (hd : isDigit d = true) (h : d ≠ 48) : 1 ≤ numVal (d :: ds) := by
  have h1 := digit_val hd
  have h2 := numVal_mono_start ds (0 * 10 + (d.toNat - 48))
  have h3 : d.toNat ≠ 48 := fun e => h (UInt8.toNat_inj.1 e)
  simp only [numVal, List.foldl_cons]
  omega

theorem digit_back {d : UInt8} (h : isDigit d = true) : UInt8.ofNat (48 + (d.toNat - 48)) = d := by
  have := digit_val h
  apply UInt8.toNat_inj.1
  rw [UInt8.toNat_ofNat']
  omega

theorem dec_of_num : ∀ (n : Nat) (ds : List UInt8), ds.length = n + 1 → (∀ d ∈ ds, isDigit d = true) → (ds.head? ≠ some 48 ∨ ds.length = 1) → Lib.decDigits (numVal ds) = ds := by
  intro n
  induction n with
  | zero =>
    intro ds hl hd _
    obtain ⟨d, rfl⟩ := List.length_eq_one_iff.1 hl
    have h := hd d (by simp)
    have h1 := digit_val h
    have e : numVal [d] = d.toNat - 48 := by simp [numVal]
    rw [e, Lib.decDigits_one (by omega), digit_back h]
  | succ n ih =>
    intro ds hl hd hh
    obtain ⟨rs, d, rfl⟩ : ∃ rs d, ds = rs ++ [d] := ⟨ds.dropLast, ds.getLast (by intro e; rw [e] at hl; simp at hl), (List.dropLast_concat_getLast _).symm⟩
    have hrl : rs.length = n + 1 := by simp at hl; omega
    have hd0 := hd d (by simp)
    have h1 := digit_val hd0
    cases rs with
    | nil => simp at hrl
    | cons a rs =>
      have ha : a ≠ 48 := by
        rcases hh with h | h
        · intro e; subst e; exact h rfl
        · simp at h
      have hp := numVal_pos (ds := rs) (hd a (by simp)) ha
      have hi := ih (a :: rs) hrl (fun x hx => hd x (by simp at hx ⊢; rcases hx with h | h <;> simp [h])) (.inl (by simpa using ha))
      rw [numVal_snoc, Lib.decDigits, dif_neg (by omega)]
      have e1 : (numVal (a :: rs) * 10 + (d.toNat - 48)) / 10 = numVal (a :: rs) := by omega
      have e2 : (numVal (a :: rs) * 10 + (d.toNat - 48)) % 10 = d.toNat - 48 := by omega
      rw [e1, e2, hi, digit_back hd0]

/-- What is written of a token; none: it could not come out. -/
def writtenM (kind : Int) (s : List UInt8) (n : Int) : Option (List UInt8) :=
  let x := if kind = 2 then Lib.itoa n else if kind = 3 then 39 :: (s ++ [39]) else s
  match lexOne x with
  | some (t, k) => if k = x.length ∧ (t.kind : Int) = kind ∧ t.s = s ∧ (t.n : Int) = n then some x else none
  | none => none

/-- What comes out is written as it stood. -/
theorem written_lex {l : List UInt8} {t : Tok} {k : Nat} (h : lexOne l = some (t, k)) : writtenM t.kind t.s t.n = some (l.take k) := by
  have hk := lexOne_len h
  have ht := lexOne_take h
  have hlen : (l.take k).length = k := by rw [List.length_take]; omega
  have hx : (if (t.kind : Int) = 2 then Lib.itoa t.n else if (t.kind : Int) = 3 then 39 :: (t.s ++ [39]) else t.s) = l.take k := by
    cases l with
    | nil => simp [lexOne] at h
    | cons c r =>
      simp only [lexOne] at h
      split at h
      · split at h
        · cases h
          rfl
        · cases h
      · split at h
        · rename_i hd
          split at h
          · rename_i hq
            cases h
            have hi : Lib.itoa ((numVal ((c :: r).take (spanN isDigit (c :: r))) : Nat) : Int) = Lib.decDigits (numVal ((c :: r).take (spanN isDigit (c :: r)))) := by
              unfold Lib.itoa
              rw [if_neg (by omega), Int.toNat_natCast]
            rw [if_pos (show ((2 : Nat) : Int) = 2 from rfl), hi]
            refine dec_of_num (spanN isDigit r) _ ?_ (span_all _) ?_
            · rw [List.length_take, span_pos hd]
              have := spanN_le isDigit r
              simp only [List.length_cons]
              omega
            · rcases hq.2 with h1 | h1
              · left
                rw [span_pos hd, List.take_succ_cons]
                simpa using h1
              · right
                rw [h1]
                simp
          · cases h
        · split at h
          · rename_i hq
            split at h
            · rename_i hk2
              cases h
              subst hq
              have hlt : spanN inText r < r.length := by
                rcases Nat.lt_or_ge (spanN inText r) r.length with h' | h'
                · exact h'
                · rw [List.drop_eq_nil_of_le h'] at hk2; cases hk2.1
              have h39 : r[spanN inText r] = 39 := by
                have := hk2.1
                rw [List.head?_drop, List.getElem?_eq_getElem hlt] at this
                simpa using this
              have e : r.take (spanN inText r + 1) = r.take (spanN inText r) ++ [39] := by rw [List.take_succ_eq_append_getElem hlt, h39]
              show (if ((3 : Nat) : Int) = 2 then _ else if ((3 : Nat) : Int) = 3 then 39 :: (r.take (spanN inText r) ++ [39]) else _) = 39 :: r.take (spanN inText r + 1)
              rw [if_neg (show ¬ ((3 : Nat) : Int) = 2 by omega), if_pos (show ((3 : Nat) : Int) = 3 from rfl), e]
            · cases h
          · split at h
            · split at h
              · rename_i hk2
                cases r with
                | nil => cases hk2.2
                | cons d r =>
                  simp only [List.head?_cons, Option.some.injEq] at hk2
                  cases h
                  rw [hk2.2]
                  rfl
              · split at h
                · cases h
                · cases h
                  rfl
            · cases h
  unfold writtenM
  simp only [hx, ht]
  rw [if_pos ⟨hlen.symm, trivial, trivial, trivial⟩]

theorem written_some {kind n : Int} {s x : List UInt8} (h : writtenM kind s n = some x) : ∃ t, lexOne x = some (t, x.length) ∧ (t.kind : Int) = kind ∧ t.s = s ∧ (t.n : Int) = n := by
  unfold writtenM at h
  generalize (if kind = 2 then Lib.itoa n else if kind = 3 then 39 :: (s ++ [39]) else s) = y at h
  simp only at h
  split at h
  · rename_i t k hl
    split at h
    · rename_i hc
      simp only [Option.some.injEq] at h
      rw [h] at hl hc
      rw [hc.1] at hl
      exact ⟨t, hl, hc.2⟩
    · cases h
  · cases h

/-- All tokens of a text with their places; or where it is refused, and why. -/
def lexAll : Nat → List UInt8 → Nat → Nat → Except (Nat × Int) (List (Tok × Nat))
  | 0, _, _, _ => .ok []
  | fuel + 1, l, at_, n =>
    if l.drop (spanN isBlank l) = [] then .ok []
    else match lexOne (l.drop (spanN isBlank l)) with
      | none => .error (at_ + spanN isBlank l, 100)
      | some (t, k) =>
        if n = 4096 then .error (at_ + spanN isBlank l, 2)
        else match lexAll fuel ((l.drop (spanN isBlank l)).drop k) (at_ + spanN isBlank l + k) (n + 1) with
          | .ok xs => .ok ((t, at_ + spanN isBlank l) :: xs)
          | .error e => .error e

def textOf : List (List UInt8 × List UInt8 × Tok) → List UInt8 → List UInt8
  | [], tl => tl
  | (g, w, _) :: r, tl => g ++ (w ++ textOf r tl)

def placed : List (List UInt8 × List UInt8 × Tok) → Nat → List (Tok × Nat)
  | [], _ => []
  | (g, w, t) :: r, at_ => (t, at_ + g.length) :: placed r (at_ + g.length + w.length)

theorem span_blanks {p : UInt8 → Bool} {g : List UInt8} (hg : ∀ c ∈ g, p c = true) : ∀ (m : List UInt8), (∀ c, m.head? = some c → p c = false) → spanN p (g ++ m) = g.length := by
  induction g with
  | nil =>
    intro m hm
    cases m with
    | nil => rfl
    | cons c m => simp [spanN, hm c rfl]
  | cons a g ih =>
    intro m hm
    rw [List.cons_append, span_pos (hg a (by simp)), ih (fun c hc => hg c (by simp [hc])) m hm]
    rfl

theorem lexOne_head {l : List UInt8} {t : Tok} {k : Nat} (h : lexOne l = some (t, k)) : ∀ c, l.head? = some c → isBlank c = false := by
  intro c hc
  cases l with
  | nil => cases hc
  | cons d r =>
    simp only [List.head?_cons, Option.some.injEq] at hc
    subst hc
    cases hb : isBlank d with
    | false => rfl
    | true =>
      exfalso
      simp only [isBlank, Bool.or_eq_true, beq_iff_eq] at hb
      rcases hb with rfl | rfl
      · rw [lexOne, if_neg (by decide), if_neg (by decide), if_neg (by decide), if_neg (by decide)] at h
        cases h
      · rw [lexOne, if_neg (by decide), if_neg (by decide), if_neg (by decide), if_neg (by decide)] at h
        cases h

/-- Words with blanks between come out again, each at its place. -/
theorem lexAll_text : ∀ (ts : List (List UInt8 × List UInt8 × Tok)) (tl : List UInt8) (fuel at_ n : Nat), (∀ q ∈ ts, (∀ c ∈ q.1, isBlank c = true) ∧ lexOne q.2.1 = some (q.2.2, q.2.1.length)) →
    (∀ q ∈ ts.tail, q.1 ≠ []) → (∀ c ∈ tl, isBlank c = true) → n + ts.length ≤ 4096 → ts.length < fuel → lexAll fuel (textOf ts tl) at_ n = .ok (placed ts at_)
  | _, _, 0, _, _, _, _, _, _, hf => by omega
  | [], tl, fuel + 1, at_, n, _, _, htl, _, _ => by
    have e : spanN isBlank tl = tl.length := by
      have := span_blanks htl [] (by simp)
      rwa [List.append_nil] at this
    simp [lexAll, textOf, e, placed]
  | (g, w, t) :: r, tl, fuel + 1, at_, n, hq, hg, htl, hn, hf => by
    obtain ⟨h1, h2⟩ := hq (g, w, t) (by simp)
    simp only at h1 h2
    have hw := lexOne_len h2
    have hhead : ∀ c, (textOf r tl).head? = some c → isBlank c = true := by
      intro c hc
      cases r with
      | nil =>
        simp only [textOf] at hc
        exact htl c (List.mem_of_mem_head? hc)
      | cons q r =>
        obtain ⟨g', w', t'⟩ := q
        simp only [textOf] at hc
        have hne := hg (g', w', t') (by simp)
        have h3 := (hq (g', w', t') (by simp)).1
        simp only at hne h3
        cases g' with
        | nil => exact absurd rfl hne
        | cons b g' =>
          simp only [List.cons_append, List.head?_cons, Option.some.injEq] at hc
          subst hc
          exact h3 b (by simp)
    have hl := lexOne_append hhead h2
    have hnb := lexOne_head hl
    have hsp := span_blanks h1 (w ++ textOf r tl) hnb
    have hdrop : (g ++ (w ++ textOf r tl)).drop g.length = w ++ textOf r tl := by simp
    have hne : w ++ textOf r tl ≠ [] := by
      intro e
      have : w = [] := (List.append_eq_nil_iff.1 e).1
      rw [this] at hw
      simp at hw
    have hdrop2 : (w ++ textOf r tl).drop w.length = textOf r tl := by simp
    have ih := lexAll_text r tl fuel (at_ + g.length + w.length) (n + 1) (fun q hq' => hq q (by simp [hq'])) (fun q hq' => hg q (by
      simp only [List.tail_cons]
      exact List.mem_of_mem_tail hq')) htl (by simp at hn; omega) (by simp at hf; omega)
    have hn4 : ¬ n = 4096 := by simp at hn; omega
    simp only [lexAll, textOf, hsp, hdrop]
    rw [if_neg hne, hl]
    simp only [hdrop2]
    rw [if_neg hn4, ih]
    rfl

/-- What comes out stood so. -/
theorem lexAll_back : ∀ (fuel : Nat) (l : List UInt8) (at_ n : Nat) (xs : List (Tok × Nat)), l.length < fuel → n ≤ 4096 → lexAll fuel l at_ n = .ok xs →
    ∃ ts tl, l = textOf ts tl ∧ (∀ q ∈ ts, (∀ c ∈ q.1, isBlank c = true) ∧ lexOne q.2.1 = some (q.2.2, q.2.1.length)) ∧ (∀ c ∈ tl, isBlank c = true) ∧ xs = placed ts at_ ∧ n + ts.length ≤ 4096
  | 0, _, _, _, _, hf, _, _ => by omega
  | fuel + 1, l, at_, n, xs, hf, hn, h => by
    have hg := span_all (p := isBlank) l
    have hsplit := List.take_append_drop (spanN isBlank l) l
    have hgl : (l.take (spanN isBlank l)).length = spanN isBlank l := by rw [List.length_take]; have := spanN_le isBlank l; omega
    simp only [lexAll] at h
    split at h
    · rename_i he
      simp only [Except.ok.injEq] at h
      subst h
      refine ⟨[], l, rfl, by simp, ?_, rfl, by simpa using hn⟩
      intro c hc
      rw [he, List.append_nil] at hsplit
      rw [← hsplit] at hc
      exact hg c hc
    · split at h
      · cases h
      · rename_i t k hl
        split at h
        · cases h
        · rename_i hn4
          split at h
          · rename_i ys hys
            simp only [Except.ok.injEq] at h
            have hk := lexOne_len hl
            rw [List.length_drop] at hk
            obtain ⟨ts, tl, e1, e2, e3, e4, e5⟩ := lexAll_back fuel _ _ _ ys (by rw [List.length_drop, List.length_drop]; omega) (by omega) hys
            have hwl : ((l.drop (spanN isBlank l)).take k).length = k := by rw [List.length_take, List.length_drop]; omega
            refine ⟨(l.take (spanN isBlank l), (l.drop (spanN isBlank l)).take k, t) :: ts, tl, ?_, ?_, e3, ?_, by simp; omega⟩
            · simp only [textOf]
              rw [← e1, List.take_append_drop, hsplit]
            · intro q hq
              rcases List.mem_cons.1 hq with rfl | hq
              · refine ⟨hg, ?_⟩
                simp only
                rw [hwl]
                exact lexOne_take hl
              · exact e2 q hq
            · rw [← h, e4]
              simp only [placed, hgl, hwl]
          · cases h

/-- Words with one blank between. -/
def joinW : List (List UInt8) → List UInt8
  | [] => []
  | [w] => w
  | w :: v :: r => w ++ 32 :: joinW (v :: r)

def behind (ts : List (List UInt8 × Tok)) : List (List UInt8 × List UInt8 × Tok) := ts.map fun p => ([32], p.1, p.2)
def gaps : List (List UInt8 × Tok) → List (List UInt8 × List UInt8 × Tok)
  | [] => []
  | (w, t) :: r => ([], w, t) :: behind r

theorem text_behind : ∀ (ts : List (List UInt8 × Tok)) (p : List UInt8 × Tok), textOf (gaps (p :: ts)) [] = joinW ((p :: ts).map (·.1))
  | [], (w, t) => by simp [gaps, behind, textOf, joinW]
  | q :: ts, (w, t) => by
    have ih := text_behind ts q
    obtain ⟨w', t'⟩ := q
    simp only [gaps, behind, textOf, List.map_cons, joinW, List.nil_append] at ih ⊢
    rw [← ih]
    rfl

theorem text_gaps (ts : List (List UInt8 × Tok)) : textOf (gaps ts) [] = joinW (ts.map (·.1)) := by
  cases ts with
  | nil => rfl
  | cons p ts => exact text_behind ts p

theorem gaps_len (ts : List (List UInt8 × Tok)) : (gaps ts).length = ts.length := by
  cases ts with
  | nil => rfl
  | cons p ts => simp [gaps, behind]

theorem gaps_ok {ts : List (List UInt8 × Tok)} (h : ∀ p ∈ ts, lexOne p.1 = some (p.2, p.1.length)) :
    (∀ q ∈ gaps ts, (∀ c ∈ q.1, isBlank c = true) ∧ lexOne q.2.1 = some (q.2.2, q.2.1.length)) ∧ ∀ q ∈ (gaps ts).tail, q.1 ≠ [] := by
  cases ts with
  | nil => simp [gaps]
  | cons p ts =>
    obtain ⟨w, t⟩ := p
    refine ⟨fun q hq => ?_, fun q hq => ?_⟩
    · simp only [gaps, behind, List.mem_cons, List.mem_map] at hq
      rcases hq with rfl | ⟨p, hp, rfl⟩
      · exact ⟨by simp, h (w, t) (by simp)⟩
      · exact ⟨by intro c hc; simp at hc; subst hc; decide, h p (by simp [hp])⟩
    · simp only [gaps, behind, List.tail_cons, List.mem_map] at hq
      obtain ⟨p, _, rfl⟩ := hq
      simp

theorem placed_toks : ∀ (ts : List (List UInt8 × List UInt8 × Tok)) (a : Nat), (placed ts a).map (·.1) = ts.map (·.2.2)
  | [], _ => rfl
  | (g, w, t) :: r, a => by simp [placed, placed_toks r]

theorem gaps_toks (ts : List (List UInt8 × Tok)) : (gaps ts).map (·.2.2) = ts.map (·.2) := by
  cases ts with
  | nil => rfl
  | cons p ts => simp [gaps, behind]

/-- THERE: words that are tokens, joined, come out as these. -/
theorem lexAll_join {ts : List (List UInt8 × Tok)} (h : ∀ p ∈ ts, lexOne p.1 = some (p.2, p.1.length)) (hn : ts.length ≤ 4096) {fuel : Nat} (hf : ts.length < fuel) :
    ∃ xs, lexAll fuel (joinW (ts.map (·.1))) 0 0 = .ok xs ∧ xs.map (·.1) = ts.map (·.2) := by
  obtain ⟨h1, h2⟩ := gaps_ok h
  have h3 := lexAll_text (gaps ts) [] fuel 0 0 h1 h2 (by simp) (by rw [gaps_len]; omega) (by rw [gaps_len]; exact hf)
  rw [text_gaps] at h3
  exact ⟨_, h3, by rw [placed_toks, gaps_toks]⟩

/-- BACK: the tokens of a text, each written, are words that come out as they are. -/
theorem lexAll_words {fuel : Nat} {l : List UInt8} {xs : List (Tok × Nat)} (hf : l.length < fuel) (h : lexAll fuel l 0 0 = .ok xs) :
    ∃ ts : List (List UInt8 × Tok), xs.map (·.1) = ts.map (·.2) ∧ (∀ p ∈ ts, lexOne p.1 = some (p.2, p.1.length) ∧ writtenM p.2.kind p.2.s p.2.n = some p.1) ∧ ts.length ≤ 4096 := by
  obtain ⟨ts, tl, _, h2, _, h4, h5⟩ := lexAll_back fuel l 0 0 xs hf (by omega) h
  refine ⟨ts.map fun q => (q.2.1, q.2.2), ?_, fun p hp => ?_, by simpa using h5⟩
  · rw [h4, placed_toks, List.map_map]
    rfl
  · obtain ⟨q, hq, rfl⟩ := List.mem_map.1 hp
    have h6 := (h2 q hq).2
    refine ⟨h6, ?_⟩
    have h7 := written_lex h6
    rw [List.take_length] at h7
    exact h7

end Go.Proofs.YtefcmijobbgpbaaGreatDoor

namespace Go.Proofs.YtefcmijobbgpbaaGreatDoor
open Go.RowKit

/-- A byte's class, as the table has it. -/
def clsI (c : UInt8) : Int := if isBlank c then 1 else if isLetter c then 2 else if isDigit c then 3 else if c == 39 then 4 else if isSign c then 5 else 0

/-- The table lies there. -/
def Tab (w : World) : Prop := ∀ i : Nat, i < 128 → w.cell? ⟨2, i, none⟩ = some (.int .u8 (clsI (UInt8.ofNat i)))

theorem Tab.keep {S : List Nat} {w w' : World} (h : Tab w) (k : Keeps S w w') (hS : 2 ∉ S) : Tab w' := fun i hi => k.cell (h i hi) hS

theorem cls_high {c : UInt8} (h : 128 ≤ c.toNat) : clsI c = 0 := by
  have : ∀ c : Fin 256, 128 ≤ c.val → clsI (UInt8.ofNat c.val) = 0 := by decide +kernel
  have h2 := this ⟨c.toNat, c.toNat_lt⟩ h
  have e : UInt8.ofNat c.toNat = c := UInt8.ofNat_toNat
  simpa [e] using h2

theorem class_any (c : UInt8) (w : World) (h : Tab w) : Calls Tryz.prog 82 #[.int .u8 (c.toNat : Int)] w fun e w' => e = .returned (.int .u8 (clsI c)) ∧ w = w' := by
  have hlt := c.toNat_lt
  by_cases hc : c.toNat < 128
  · have hcell := h c.toNat hc
    have e : UInt8.ofNat c.toNat = c := UInt8.ofNat_toNat
    rw [e] at hcell
    have d1 : decide ((c.toNat : Int) ≥ 128) = false := by simp; omega
    have d2 : decide ((128 : Int) ≤ (c.toNat : Int)) = false := by simp; omega
    have b0 : (0 : Int) ≤ (c.toNat : Int) := by omega
    have b1 : (c.toNat : Int) < 128 := by omega
    generalize clsI c = z at *
    generalize c.toNat = n at *
    clear h e
    go_enter Tryz.func82, Tryz.ntmps82
    go_wp2_with fail
    go_ret
    exact ⟨rfl, rfl⟩
  · have d1 : decide ((c.toNat : Int) ≥ 128) = true := by simp; omega
    have d2 : decide ((128 : Int) ≤ (c.toNat : Int)) = true := by simp; omega
    rw [cls_high (by omega)]
    generalize c.toNat = n at *
    clear h
    go_enter Tryz.func82, Tryz.ntmps82
    go_wp2_with fail
    go_ret
    exact ⟨rfl, rfl⟩

theorem letter_any (c : UInt8) (w : World) : Calls Tryz.prog 93 #[.int .u8 (c.toNat : Int)] w fun e w' => e = .returned (.bool (isLetter c)) ∧ w = w' := by
  have e0 : isLetter c = (decide (97 ≤ c.toNat) && decide (c.toNat ≤ 122)) := rfl
  rw [e0]
  generalize c.toNat = n
  by_cases h1 : 97 ≤ n
  · by_cases h2 : n ≤ 122
    · have d1 : decide ((97 : Int) ≤ (n : Int)) = true := by simp; omega
      have d2 : decide ((n : Int) ≤ 122) = true := by simp; omega
      have e1 : (decide (97 ≤ n) && decide (n ≤ 122)) = true := by simp [h1, h2]
      have d3 : decide ((n : Int) ≥ 97) = true := d1
      rw [e1]
      go_enter Tryz.func93, Tryz.ntmps93
      go_wp2_with fail
      go_ret
      exact ⟨rfl, rfl⟩
    · have d1 : decide ((97 : Int) ≤ (n : Int)) = true := by simp; omega
      have d2 : decide ((n : Int) ≤ 122) = false := by simp; omega
      have e1 : (decide (97 ≤ n) && decide (n ≤ 122)) = false := by simp [h1, h2]
      have d3 : decide ((n : Int) ≥ 97) = true := d1
      rw [e1]
      go_enter Tryz.func93, Tryz.ntmps93
      go_wp2_with fail
      go_ret
      exact ⟨rfl, rfl⟩
  · have d1 : decide ((97 : Int) ≤ (n : Int)) = false := by simp; omega
    have e1 : (decide (97 ≤ n) && decide (n ≤ 122)) = false := by simp [h1]
    have d3 : decide ((n : Int) ≥ 97) = false := d1
    rw [e1]
    go_enter Tryz.func93, Tryz.ntmps93
    go_wp2_with fail
    go_ret
    exact ⟨rfl, rfl⟩

theorem digit_any (c : UInt8) (w : World) : Calls Tryz.prog 95 #[.int .u8 (c.toNat : Int)] w fun e w' => e = .returned (.bool (isDigit c)) ∧ w = w' := by
  have e0 : isDigit c = (decide (48 ≤ c.toNat) && decide (c.toNat ≤ 57)) := rfl
  rw [e0]
  generalize c.toNat = n
  by_cases h1 : 48 ≤ n
  · by_cases h2 : n ≤ 57
    · have d1 : decide ((48 : Int) ≤ (n : Int)) = true := by simp; omega
      have d2 : decide ((n : Int) ≤ 57) = true := by simp; omega
      have e1 : (decide (48 ≤ n) && decide (n ≤ 57)) = true := by simp [h1, h2]
      have d3 : decide ((n : Int) ≥ 48) = true := d1
      rw [e1]
      go_enter Tryz.func95, Tryz.ntmps95
      go_wp2_with fail
      go_ret
      exact ⟨rfl, rfl⟩
    · have d1 : decide ((48 : Int) ≤ (n : Int)) = true := by simp; omega
      have d2 : decide ((n : Int) ≤ 57) = false := by simp; omega
      have e1 : (decide (48 ≤ n) && decide (n ≤ 57)) = false := by simp [h1, h2]
      have d3 : decide ((n : Int) ≥ 48) = true := d1
      rw [e1]
      go_enter Tryz.func95, Tryz.ntmps95
      go_wp2_with fail
      go_ret
      exact ⟨rfl, rfl⟩
  · have d1 : decide ((48 : Int) ≤ (n : Int)) = false := by simp; omega
    have e1 : (decide (48 ≤ n) && decide (n ≤ 57)) = false := by simp [h1]
    have d3 : decide ((n : Int) ≥ 48) = false := d1
    rw [e1]
    go_enter Tryz.func95, Tryz.ntmps95
    go_wp2_with fail
    go_ret
    exact ⟨rfl, rfl⟩

end Go.Proofs.YtefcmijobbgpbaaGreatDoor

namespace Go.Proofs.YtefcmijobbgpbaaGreatDoor
open Go.RowKit

theorem liteIndexByte_any (s : ByteArray) (c : Int) (w : World) : Calls Tryz.prog 99 #[.string s, .int .u8 c] w fun e w' => e = .returned (.int .i64 (Lib.indexByte s.data.toList c.toNat.toUInt8)) ∧ w = w' := by
  go_enter Tryz.func99, Tryz.ntmps99
  go_wp2
  rw [run_callFunc_extern Tryz.func119 (by kernel_rfl) (by kernel_rfl) (by kernel_rfl) (e := Extern.BytealgIndexByte.indexByte) (by kernel_rfl), Lib.run_indexByteString]
  simp only [Result.andThen]
  rw [Oper.upon_value]
  go_wp2
  go_ret
  exact ⟨rfl, rfl⟩

theorem indexByte_any (s : ByteArray) (c : Int) (w : World) : Calls Tryz.prog 81 #[.string s, .int .u8 c] w fun e w' => e = .returned (.int .i64 (Lib.indexByte s.data.toList c.toNat.toUInt8)) ∧ w = w' := by
  have H := fun w => Lib.hid (liteIndexByte_any s c w)
  go_enter Tryz.func81, Tryz.ntmps81
  go_wp2_with fail
  refine (H _).out.mono ?_
  rintro e w' ⟨rfl, rfl⟩
  go_wp2_with fail
  go_ret
  exact ⟨rfl, rfl⟩

end Go.Proofs.YtefcmijobbgpbaaGreatDoor

namespace Go.Proofs.YtefcmijobbgpbaaGreatDoor
open Go.RowKit

/-- Is a byte of one of these classes? -/
def inCls (ofs : ByteArray) (c : UInt8) : Bool := decide (0 ≤ Lib.indexByte ofs.data.toList (clsI c).toNat.toUInt8)

theorem span_at {p : UInt8 → Bool} {l : List UInt8} {j : Nat} (hj : j < l.length) : spanN p (l.drop j) = if p l[j] = true then spanN p (l.drop (j + 1)) + 1 else 0 := by
  rw [List.drop_eq_getElem_cons hj]
  split
  · rename_i h
    exact span_pos h
  · rename_i h
    unfold spanN
    rw [List.takeWhile_cons, if_neg h]
    rfl

set_option maxRecDepth 100000 in
set_option maxHeartbeats 2000000 in
theorem run_any (s : ByteArray) (at_ : Nat) (sl : Value) (ofs : ByteArray) (w : World) (hT : Tab w) (hcv : ∀ w', Keeps [] w w' → (convert 124 9 sl).run Tryz.prog w' = .ok (.string ofs) w') (hat : at_ ≤ s.size) (hs : s.size ≤ 4611686018427387904) :
    Calls Tryz.prog 54 #[.string s, .int .i64 (at_ : Int), sl] w fun e w' => e = .returned (.int .i64 ((at_ + spanN (inCls ofs) (s.data.toList.drop at_) : Nat) : Int)) ∧ Keeps [] w w' := by
  have hk0 := Keeps.refl [] w
  have hsz : s.data.toList.length = s.size := rfl
  have Hcv := Lib.hid hcv
  have HT := Lib.hid hT
  clear hcv hT
  go_enter Tryz.func54, Tryz.ntmps54
  go_wp2_with fail
  go_loopw [1] (fun i wr => ∃ j : Nat, at_ ≤ j ∧ j ≤ s.size ∧ i = .int .i64 j ∧ at_ + spanN (inCls ofs) (s.data.toList.drop at_) = j + spanN (inCls ofs) (s.data.toList.drop j) ∧ Keeps [] w wr) (fun i _ => s.size - (intOf i).toNat)
  case atStart => exact ⟨at_, Nat.le_refl _, hat, rfl, rfl, hk0⟩
  case round =>
    obtain ⟨j, hj1, hj2, rfl, he, hk⟩ := hrel
    by_cases hlt : j < s.size
    · have d1 : decide ((j : Int) < (s.size : Int)) = true := by simp; omega
      have b0 : (0 : Int) ≤ (j : Int) := by omega
      have b1 : (j : Int) < (s.size : Int) := by omega
      go_wp2_with fail
      refine wp_region_tree (fun w' => Keeps [] w w') [] (.op 0 0 (.op 1 0 (.op 2 0 (.op 3 0 (.op 4 0 (.op 5 0 (.op 7 0 (.op 8 0 (.op 9 0 (.alt 6 (.op 10 2 (.op 11 2 (.op 12 0 (.op 13 0 (.done))))) 10 (.op 6 2 (.op 11 2 (.op 12 0 (.op 13 0 (.done))))))))))))))) (by kernel_rfl) (by kernel_rfl) (fun _ d _ _ _ h => by cases d <;> exact h) hk.drew ?_
      repeat (first
        | (refine wpT_pure (v := ?_) rfl (by rfl) ?_ ?_
           rotate_left 1
           · (intro w; go_simp; try with_reducible rfl)
           try simp only [Act.put, List.setIfInBounds_toArray, List.set_cons_zero, List.set_cons_succ, List.getElem_toArray, List.getElem_cons_succ, List.getElem_cons_zero]))
      have hsp := span_at (p := inCls ofs) (l := s.data.toList) (j := j) (by rw [hsz]; exact hlt)
      have hjc : s.data.toList[j] = s[j] := rfl
      rw [hjc] at hsp
      clear hjc
      generalize s[j] = c at *
      refine wpT_alt rfl rfl (by rfl) (by rfl) (fun K hK => ?_) (fun K hK => ?_)
      · skip
        have h6 := Hcv.out wr.drew hk.drew
        go_simp
        refine hK _ _ hk.drew ?_
        clear hK K h6
        try simp only [Act.put, List.setIfInBounds_toArray, List.set_cons_zero, List.set_cons_succ, List.getElem_toArray, List.getElem_cons_succ, List.getElem_cons_zero]
        refine wpT_step rfl (by rfl) (fun K hK => ?_)
        go_simp
        refine (class_any c _ (HT.out.keep hk.drew (by simp))).mono ?_
        rintro e w2 ⟨rfl, rfl⟩
        refine hK _ _ hk.drew ?_
        clear hK K
        try simp only [Act.put, List.setIfInBounds_toArray, List.set_cons_zero, List.set_cons_succ, List.getElem_toArray, List.getElem_cons_succ, List.getElem_cons_zero]
        refine wpT_step rfl (by rfl) (fun K hK => ?_)
        go_simp
        refine (indexByte_any ofs (clsI c) _).mono ?_
        rintro e w2 ⟨rfl, rfl⟩
        refine hK _ _ hk.drew ?_
        clear hK K
        try simp only [Act.put, List.setIfInBounds_toArray, List.set_cons_zero, List.set_cons_succ, List.getElem_toArray, List.getElem_cons_succ, List.getElem_cons_zero]
        cases hin : inCls ofs c with
        | true =>
          have d3 : decide (0 ≤ Lib.indexByte ofs.data.toList (clsI c).toNat.toUInt8) = true := hin
          have d4 : decide (Lib.indexByte ofs.data.toList (clsI c).toNat.toUInt8 ≥ 0) = true := hin
          rw [hin, if_pos rfl] at hsp
          generalize Lib.indexByte ofs.data.toList (clsI c).toNat.toUInt8 = r at *
          have wr1 : IntKind.i64.wrap ((j : Int) + 1) = (j : Int) + 1 := IntWalk.i64_in _ (by omega)
          repeat (first
            | (refine wpT_pure (v := ?_) rfl (by rfl) ?_ ?_
               rotate_left 1
               · (intro w; go_simp; try with_reducible rfl)
               try simp only [Act.put, List.setIfInBounds_toArray, List.set_cons_zero, List.set_cons_succ, List.getElem_toArray, List.getElem_cons_succ, List.getElem_cons_zero]))
          refine wpT_done ?_
          go_wp2_with fail
          exact ⟨⟨j + 1, by omega, by omega, by simp, by rw [he, hsp]; omega, hk.drew⟩, by simp only [intOf]; omega⟩
        | false =>
          have d3 : decide (0 ≤ Lib.indexByte ofs.data.toList (clsI c).toNat.toUInt8) = false := hin
          have d4 : decide (Lib.indexByte ofs.data.toList (clsI c).toNat.toUInt8 ≥ 0) = false := hin
          rw [hin, if_neg (by simp)] at hsp
          rw [hsp, Nat.add_zero] at he
          generalize Lib.indexByte ofs.data.toList (clsI c).toNat.toUInt8 = r at *
          repeat (first
            | (refine wpT_pure (v := ?_) rfl (by rfl) ?_ ?_
               rotate_left 1
               · (intro w; go_simp; try with_reducible rfl)
               try simp only [Act.put, List.setIfInBounds_toArray, List.set_cons_zero, List.set_cons_succ, List.getElem_toArray, List.getElem_cons_succ, List.getElem_cons_zero]))
          refine wpT_done ?_
          go_wp2_with fail
          go_ret
          exact ⟨by first | (rw [he]; done) | (rw [he]; rfl), hk.drew⟩
      · go_simp
        refine (class_any c _ (HT.out.keep hk.drew (by simp))).mono ?_
        rintro e w2 ⟨rfl, rfl⟩
        refine hK _ _ hk.drew ?_
        clear hK K
        try simp only [Act.put, List.setIfInBounds_toArray, List.set_cons_zero, List.set_cons_succ, List.getElem_toArray, List.getElem_cons_succ, List.getElem_cons_zero]
        refine wpT_step rfl (by rfl) (fun K hK => ?_)
        have h6 := Hcv.out wr.drew hk.drew
        go_simp
        refine hK _ _ hk.drew ?_
        clear hK K h6
        try simp only [Act.put, List.setIfInBounds_toArray, List.set_cons_zero, List.set_cons_succ, List.getElem_toArray, List.getElem_cons_succ, List.getElem_cons_zero]
        refine wpT_step rfl (by rfl) (fun K hK => ?_)
        go_simp
        refine (indexByte_any ofs (clsI c) _).mono ?_
        rintro e w2 ⟨rfl, rfl⟩
        refine hK _ _ hk.drew ?_
        clear hK K
        try simp only [Act.put, List.setIfInBounds_toArray, List.set_cons_zero, List.set_cons_succ, List.getElem_toArray, List.getElem_cons_succ, List.getElem_cons_zero]
        cases hin : inCls ofs c with
        | true =>
          have d3 : decide (0 ≤ Lib.indexByte ofs.data.toList (clsI c).toNat.toUInt8) = true := hin
          have d4 : decide (Lib.indexByte ofs.data.toList (clsI c).toNat.toUInt8 ≥ 0) = true := hin
          rw [hin, if_pos rfl] at hsp
          generalize Lib.indexByte ofs.data.toList (clsI c).toNat.toUInt8 = r at *
          have wr1 : IntKind.i64.wrap ((j : Int) + 1) = (j : Int) + 1 := IntWalk.i64_in _ (by omega)
          repeat (first
            | (refine wpT_pure (v := ?_) rfl (by rfl) ?_ ?_
               rotate_left 1
               · (intro w; go_simp; try with_reducible rfl)
               try simp only [Act.put, List.setIfInBounds_toArray, List.set_cons_zero, List.set_cons_succ, List.getElem_toArray, List.getElem_cons_succ, List.getElem_cons_zero]))
          refine wpT_done ?_
          go_wp2_with fail
          exact ⟨⟨j + 1, by omega, by omega, by simp, by rw [he, hsp]; omega, hk.drew⟩, by simp only [intOf]; omega⟩
        | false =>
          have d3 : decide (0 ≤ Lib.indexByte ofs.data.toList (clsI c).toNat.toUInt8) = false := hin
          have d4 : decide (Lib.indexByte ofs.data.toList (clsI c).toNat.toUInt8 ≥ 0) = false := hin
          rw [hin, if_neg (by simp)] at hsp
          rw [hsp, Nat.add_zero] at he
          generalize Lib.indexByte ofs.data.toList (clsI c).toNat.toUInt8 = r at *
          repeat (first
            | (refine wpT_pure (v := ?_) rfl (by rfl) ?_ ?_
               rotate_left 1
               · (intro w; go_simp; try with_reducible rfl)
               try simp only [Act.put, List.setIfInBounds_toArray, List.set_cons_zero, List.set_cons_succ, List.getElem_toArray, List.getElem_cons_succ, List.getElem_cons_zero]))
          refine wpT_done ?_
          go_wp2_with fail
          go_ret
          exact ⟨by first | (rw [he]; done) | (rw [he]; rfl), hk.drew⟩
    · have hje : j = s.size := by omega
      have d1 : decide ((j : Int) < (s.size : Int)) = false := by simp; omega
      have h0 : spanN (inCls ofs) (s.data.toList.drop j) = 0 := by
        rw [List.drop_eq_nil_of_le (by omega)]
        rfl
      rw [h0, Nat.add_zero] at he
      clear h0 hsz hje
      go_wp2_with fail
      refine wp_region_tree (fun _ => True) [] (.op 0 0 (.op 1 0 (.op 2 0 (.op 3 0 (.op 4 0 (.op 5 0 (.op 7 0 (.op 8 0 (.op 9 0 (.alt 6 (.op 10 2 (.op 11 2 (.op 12 0 (.op 13 0 (.done))))) 10 (.op 6 2 (.op 11 2 (.op 12 0 (.op 13 0 (.done))))))))))))))) (by kernel_rfl) (by kernel_rfl) (fun _ d _ _ _ h => by cases d <;> exact h) trivial ?_
      repeat (first
        | (refine wpT_pure (v := ?_) rfl (by rfl) ?_ ?_
           rotate_left 1
           · (intro w; go_simp; try with_reducible rfl)
           try simp only [Act.put, List.setIfInBounds_toArray, List.set_cons_zero, List.set_cons_succ, List.getElem_toArray, List.getElem_cons_succ, List.getElem_cons_zero]))
      repeat
        refine wpT_pass rfl (by rfl) (by decide) ?_
        try simp only [Act.put, List.setIfInBounds_toArray, List.set_cons_zero, List.set_cons_succ, List.getElem_toArray, List.getElem_cons_succ, List.getElem_cons_zero]
      refine wpT_altpass rfl rfl (by rfl) (by rfl) trivial ?_ ?_
      all_goals
        try simp only [Act.put, List.setIfInBounds_toArray, List.set_cons_zero, List.set_cons_succ, List.getElem_toArray, List.getElem_cons_succ, List.getElem_cons_zero]
        refine wpT_pass2 rfl (by rfl) trivial ?_
        try simp only [Act.put, List.setIfInBounds_toArray, List.set_cons_zero, List.set_cons_succ, List.getElem_toArray, List.getElem_cons_succ, List.getElem_cons_zero]
        refine wpT_pass2 rfl (by rfl) trivial ?_
        try simp only [Act.put, List.setIfInBounds_toArray, List.set_cons_zero, List.set_cons_succ, List.getElem_toArray, List.getElem_cons_succ, List.getElem_cons_zero]
        refine wpT_pass rfl (by rfl) (by decide) ?_
        try simp only [Act.put, List.setIfInBounds_toArray, List.set_cons_zero, List.set_cons_succ, List.getElem_toArray, List.getElem_cons_succ, List.getElem_cons_zero]
        refine wpT_pure (v := ?_) rfl (by rfl) ?_ ?_
        rotate_left 1
        · (intro w; go_simp; try with_reducible rfl)
        try simp only [Act.put, List.setIfInBounds_toArray, List.set_cons_zero, List.set_cons_succ, List.getElem_toArray, List.getElem_cons_succ, List.getElem_cons_zero]
        refine wpT_done ?_
        go_wp2_with fail
        go_ret
        exact ⟨by first | (rw [he]; done) | (rw [he]; rfl), hk.drew⟩

end Go.Proofs.YtefcmijobbgpbaaGreatDoor

namespace Go.Proofs.YtefcmijobbgpbaaGreatDoor
open Go.RowKit

theorem all_bytes {p : UInt8 → Bool} (h : ∀ i : Fin 256, p (UInt8.ofNat i.val) = true) (c : UInt8) : p c = true := by
  have h2 := h ⟨c.toNat, c.toNat_lt⟩
  have e : UInt8.ofNat c.toNat = c := UInt8.ofNat_toNat
  simpa [e] using h2

theorem inCls_blank (c : UInt8) : inCls ⟨#[1]⟩ c = isBlank c := by
  have := all_bytes (p := fun c => inCls ⟨#[1]⟩ c == isBlank c) (by decide +kernel) c
  simpa using this
theorem inCls_digit (c : UInt8) : inCls ⟨#[3]⟩ c = isDigit c := by
  have := all_bytes (p := fun c => inCls ⟨#[3]⟩ c == isDigit c) (by decide +kernel) c
  simpa using this
theorem inCls_alnum (c : UInt8) : inCls ⟨#[2, 3]⟩ c = isAlnum c := by
  have := all_bytes (p := fun c => inCls ⟨#[2, 3]⟩ c == isAlnum c) (by decide +kernel) c
  simpa using this

theorem cls_letter (c : UInt8) : (clsI c == 2) = isLetter c := by
  have := all_bytes (p := fun c => (clsI c == 2) == isLetter c) (by decide +kernel) c
  simpa using this
theorem cls_digit (c : UInt8) : (clsI c == 3) = isDigit c := by
  have := all_bytes (p := fun c => (clsI c == 3) == isDigit c) (by decide +kernel) c
  simpa using this
theorem cls_quote (c : UInt8) : (clsI c == 4) = (c == 39) := by
  have := all_bytes (p := fun c => (clsI c == 4) == (c == 39)) (by decide +kernel) c
  simpa using this
theorem cls_sign (c : UInt8) : (clsI c == 5) = isSign c := by
  have := all_bytes (p := fun c => (clsI c == 5) == isSign c) (by decide +kernel) c
  simpa using this

end Go.Proofs.YtefcmijobbgpbaaGreatDoor

namespace Go.Proofs.YtefcmijobbgpbaaGreatDoor
open Go.RowKit

theorem conv_bytes (ns : List Int) (w : World) (B : Nat) (hB : w.heap[B]? = some (.cells (ns.map (Value.int .u8)).toArray 5 (0, 0))) :
    ∀ w', Keeps [] w w' → (convert 124 9 (.slice (some ⟨B, 0, none⟩) ns.length ns.length)).run Tryz.prog w' = .ok (.string (ns.foldl (fun r n => r.push (UInt8.ofNat n.toNat)) ByteArray.empty)) w' := by
  intro w' hk
  have hB' := hk.heap hB (by simp)
  rw [run_convert_bytes_string w' 124 9 5 _ _ _ Tryz.underlying124 Tryz.underlying5 Tryz.underlying9]
  refine run_bytesToString w' _ _ _ _ ?_
  have h := run_loadCells_list (P := Tryz.prog) (w := w') ⟨B, 0, none⟩ (ns.map (Value.int .u8)) ?_
  · rw [List.length_map] at h
    exact h
  · intro j v hj
    rw [addr_add, cell_of_row _ B _ _ _ _ hB']
    rw [List.getElem?_toArray, Nat.zero_add]
    exact hj

end Go.Proofs.YtefcmijobbgpbaaGreatDoor

namespace Go.Proofs.YtefcmijobbgpbaaGreatDoor
open Go.RowKit

/-- A token as the program lays it. -/
def tokV (kind : Int) (s : ByteArray) (n at_ : Int) : Value := .agg #[.int .i64 kind, .string s, .int .i64 n, .int .i64 at_]

/-- A new block, not written: the zero token. -/
def tok0 : Obj := .cells #[.int .i64 0, .string (⟨#[]⟩ : ByteArray), .int .i64 0, .int .i64 0] 91 (0, 0)

theorem alnum_or (c : UInt8) : isAlnum c = (isLetter c || isDigit c) := rfl

set_option maxRecDepth 100000 in
theorem refWord_any (s : ByteArray) (at_ : Nat) (w : World) (hat : at_ ≤ s.size) (hs : s.size ≤ 4611686018427387904) :
    Calls Tryz.prog 94 #[.string s, .int .i64 (at_ : Int)] w fun e w' => e = .returned (.tuple #[tokV 1 (s.extract at_ (at_ + spanN isAlnum (s.data.toList.drop at_))) 0 at_, .int .i64 ((at_ + spanN isAlnum (s.data.toList.drop at_) : Nat) : Int), .bool (decide (spanN isAlnum (s.data.toList.drop at_) ≤ 32))]) ∧ Keeps [] w w' := by
  have hk0 := Keeps.refl [] w
  have hsz : s.data.toList.length = s.size := rfl
  go_enter Tryz.func94, Tryz.ntmps94
  go_wp2_with fail
  go_loopw [7] (fun i wr => ∃ j : Nat, at_ ≤ j ∧ j ≤ s.size ∧ i = .int .i64 j ∧ at_ + spanN isAlnum (s.data.toList.drop at_) = j + spanN isAlnum (s.data.toList.drop j) ∧ wr = w.alloc tok0) (fun i _ => s.size - (intOf i).toNat)
  case atStart => exact ⟨at_, Nat.le_refl _, hat, rfl, rfl, rfl⟩
  case round =>
    obtain ⟨j, hj1, hj2, rfl, he, rfl⟩ := hrel
    unfold tok0
    have fin : ∀ (h0 : spanN isAlnum (s.data.toList.drop j) = 0), (0 : Int) ≤ at_ ∧ (at_ : Int) ≤ j ∧ (j : Int) ≤ s.size ∧ IntKind.i64.wrap ((j : Int) - at_) = j - at_ ∧ at_ + spanN isAlnum (s.data.toList.drop at_) = j ∧ decide ((j : Int) - at_ ≤ 32) = decide (spanN isAlnum (s.data.toList.drop at_) ≤ 32) := by
      intro h0
      refine ⟨by omega, by omega, by omega, IntWalk.i64_in _ (by omega), by omega, ?_⟩
      apply decide_eq_decide.2
      omega
    by_cases hlt : j < s.size
    · have d1 : decide ((j : Int) < (s.size : Int)) = true := by simp; omega
      have b0 : (0 : Int) ≤ (j : Int) := by omega
      have b1 : (j : Int) < (s.size : Int) := by omega
      have hsp := span_at (p := isAlnum) (l := s.data.toList) (j := j) (by rw [hsz]; exact hlt)
      have hjc : s.data.toList[j] = s[j] := rfl
      rw [hjc] at hsp
      clear hjc
      rw [alnum_or] at hsp
      have wr1 : IntKind.i64.wrap ((j : Int) + 1) = (j : Int) + 1 := IntWalk.i64_in _ (by omega)
      have HE := Lib.hid he
      clear he hsz
      cases h1 : isLetter s[j] <;> cases h2 : isDigit s[j]
      all_goals
        rw [h1, h2] at hsp
        have HL := fun w => letter_any s[j] w
        have HD := fun w => digit_any s[j] w
        rw [h1] at HL
        rw [h2] at HD
        have HL := fun w => Lib.hid (HL w)
        have HD := fun w => Lib.hid (HD w)
        clear h1 h2
      case false.false =>
        obtain ⟨f0, f1, f2, f3, f4, f5⟩ := fin hsp
        clear fin hsp
        have F4 := Lib.hid f4
        clear f4
        go_wp2_with (first | (go_at_call 93; refine (HL _).out.mono ?_; rintro e w' ⟨rfl, rfl⟩) | (go_at_call 95; refine (HD _).out.mono ?_; rintro e w' ⟨rfl, rfl⟩))
        go_returns
        exact ⟨by rw [F4.out]; rfl, hk0.alloc _⟩
      all_goals
        have HS := Lib.hid hsp
        clear hsp fin
        go_wp2_with (first | (go_at_call 93; refine (HL _).out.mono ?_; rintro e w' ⟨rfl, rfl⟩) | (go_at_call 95; refine (HD _).out.mono ?_; rintro e w' ⟨rfl, rfl⟩))
        exact ⟨⟨j + 1, by omega, by omega, by simp, by rw [HE.out, HS.out]; simp; omega, trivial⟩, by simp only [intOf]; omega⟩
    · have d1 : decide ((j : Int) < (s.size : Int)) = false := by simp; omega
      have h0 : spanN isAlnum (s.data.toList.drop j) = 0 := by
        rw [List.drop_eq_nil_of_le (by omega)]
        rfl
      obtain ⟨f0, f1, f2, f3, f4, f5⟩ := fin h0
      have F4 := Lib.hid f4
      clear f4 fin h0 he
      go_wp2_with fail
      go_returns
      exact ⟨by rw [F4.out]; rfl, hk0.alloc _⟩

end Go.Proofs.YtefcmijobbgpbaaGreatDoor

namespace Go.Proofs.YtefcmijobbgpbaaGreatDoor
open Go.RowKit

/-- What the reference's text answers. -/
def refTextV (s : ByteArray) (at_ : Nat) : Value :=
  if ((s.data.toList.drop (at_ + 1)).drop (spanN inText (s.data.toList.drop (at_ + 1)))).head? = some 39 ∧ spanN inText (s.data.toList.drop (at_ + 1)) ≤ 256 then
    .tuple #[tokV 3 (s.extract (at_ + 1) (at_ + 1 + spanN inText (s.data.toList.drop (at_ + 1)))) 0 at_, .int .i64 ((at_ + (spanN inText (s.data.toList.drop (at_ + 1)) + 2) : Nat) : Int), .bool true]
  else .tuple #[tokV 0 ⟨#[]⟩ 0 0, .int .i64 0, .bool false]

set_option maxHeartbeats 1000000 in
set_option maxRecDepth 100000 in
theorem refText_any (s : ByteArray) (at_ : Nat) (w : World) (hat : at_ < s.size) (hs : s.size ≤ 4611686018427387904) :
    Calls Tryz.prog 97 #[.string s, .int .i64 (at_ : Int)] w fun e w' => e = .returned (refTextV s at_) ∧ Keeps [] w w' := by
  have hk0 := Keeps.refl [] w
  have hsz : s.data.toList.length = s.size := rfl
  have wr0 : IntKind.i64.wrap ((at_ : Int) + 1) = (at_ : Int) + 1 := IntWalk.i64_in _ (by omega)
  go_enter Tryz.func97, Tryz.ntmps97
  go_wp2_with fail
  go_loopw [7] (fun i wr => ∃ j : Nat, at_ + 1 ≤ j ∧ j ≤ s.size ∧ i = .int .i64 j ∧ at_ + 1 + spanN inText (s.data.toList.drop (at_ + 1)) = j + spanN inText (s.data.toList.drop j) ∧ wr = w.alloc tok0) (fun i _ => s.size - (intOf i).toNat)
  case atStart => exact ⟨at_ + 1, Nat.le_refl _, hat, by simp, rfl, rfl⟩
  case round =>
    obtain ⟨j, hj1, hj2, rfl, he, rfl⟩ := hrel
    unfold tok0
    by_cases hlt : j < s.size
    · have d1 : decide ((j : Int) < (s.size : Int)) = true := by simp; omega
      have b0 : (0 : Int) ≤ (j : Int) := by omega
      have b1 : (j : Int) < (s.size : Int) := by omega
      have hsp := span_at (p := inText) (l := s.data.toList) (j := j) (by rw [hsz]; exact hlt)
      have hjc : s.data.toList[j] = s[j] := rfl
      rw [hjc] at hsp
      clear hjc
      have HE := Lib.hid he
      clear he hsz
      have wr1 : IntKind.i64.wrap ((j : Int) + 1) = (j : Int) + 1 := IntWalk.i64_in _ (by omega)
      have LG : s[j].toNat = 39 → j - at_ - 1 ≤ 256 → refTextV s at_ = .tuple #[tokV 3 (s.extract (at_ + 1) j) 0 at_, .int .i64 ((j : Int) + 1), .bool true] := by
        intro h39 h256
        have hc : s[j] = 39 := UInt8.toNat_inj.1 h39
        have hin : inText s[j] = false := by rw [hc]; decide
        rw [hin, if_neg (by simp)] at hsp
        have he : at_ + 1 + spanN inText (s.data.toList.drop (at_ + 1)) = j := by rw [HE.out, hsp]; rfl
        have hd : ((s.data.toList.drop (at_ + 1)).drop (spanN inText (s.data.toList.drop (at_ + 1)))).head? = some 39 := by
          rw [List.drop_drop, he, List.head?_drop, List.getElem?_eq_getElem (by exact hlt)]
          exact congrArg some hc
        unfold refTextV
        rw [if_pos ⟨hd, by omega⟩, he]
        have e2 : ((at_ + (spanN inText (s.data.toList.drop (at_ + 1)) + 2) : Nat) : Int) = (j : Int) + 1 := by omega
        rw [e2]
      have LB : (s[j].toNat = 10 ∨ (s[j].toNat = 39 ∧ 256 < (j : Int) - at_ - 1)) → refTextV s at_ = .tuple #[tokV 0 ⟨#[]⟩ 0 0, .int .i64 0, .bool false] := by
        intro hor
        have hin : inText s[j] = false := by
          rcases hor with h | ⟨h, _⟩
          · have hc : s[j] = 10 := UInt8.toNat_inj.1 h
            rw [hc]; decide
          · have hc : s[j] = 39 := UInt8.toNat_inj.1 h
            rw [hc]; decide
        rw [hin, if_neg (by simp)] at hsp
        have he : at_ + 1 + spanN inText (s.data.toList.drop (at_ + 1)) = j := by rw [HE.out, hsp]; rfl
        unfold refTextV
        rw [if_neg]
        rintro ⟨h1, h2⟩
        rcases hor with h | ⟨_, h⟩
        · rw [List.drop_drop, he, List.head?_drop, List.getElem?_eq_getElem (by exact hlt)] at h1
          have h3 : s[j] = 39 := Option.some.inj h1
          rw [h3] at h
          exact absurd h (by decide)
        · omega
      have HS : s[j].toNat ≠ 39 → s[j].toNat ≠ 10 → at_ + 1 + spanN inText (s.data.toList.drop (at_ + 1)) = j + 1 + spanN inText (s.data.toList.drop (j + 1)) := by
        intro h1 h2
        have hin : inText s[j] = true := by
          simp only [inText, Bool.not_eq_true', Bool.or_eq_false_iff, beq_eq_false_iff_ne]
          exact ⟨fun e => h1 (by rw [e]; rfl), fun e => h2 (by rw [e]; rfl)⟩
        rw [hin, if_pos rfl] at hsp
        rw [HE.out, hsp]
        omega
      have LG := Lib.hid LG
      have LB := Lib.hid LB
      have HS := Lib.hid HS
      clear hsp HE
      have wr2 : IntKind.i64.wrap ((j : Int) - at_) = (j : Int) - at_ := IntWalk.i64_in _ (by omega)
      have wr3 : IntKind.i64.wrap ((j : Int) - at_ - 1) = (j : Int) - at_ - 1 := IntWalk.i64_in _ (by omega)
      go_wp2_with fail
      all_goals try simp only [beq_iff_eq, bne_iff_ne, ne_eq, beq_eq_false_iff_ne, bne_eq_false_iff_eq] at *
      all_goals first
        | (go_returns; refine ⟨?_, hk0.alloc _⟩; first | (rw [LB.out (by omega)]; rfl) | (rw [LG.out (by omega) (by omega)]; rfl))
        | (refine ⟨⟨j + 1, by omega, by omega, by simp, HS.out (by omega) (by omega), trivial⟩, by simp only [intOf]; omega⟩)
    · have LB : refTextV s at_ = .tuple #[tokV 0 ⟨#[]⟩ 0 0, .int .i64 0, .bool false] := by
        have h0 : spanN inText (s.data.toList.drop j) = 0 := by
          rw [List.drop_eq_nil_of_le (by omega)]
          rfl
        rw [h0, Nat.add_zero] at he
        unfold refTextV
        rw [if_neg]
        rintro ⟨h1, h2⟩
        rw [List.drop_drop, he, List.drop_eq_nil_of_le (by omega)] at h1
        cases h1
      have d1 : decide ((j : Int) < (s.size : Int)) = false := by simp; omega
      have d2 : ((j : Int) == (s.size : Int)) = true := by simp; omega
      have LB := Lib.hid LB
      clear he
      go_wp2_with fail
      go_returns
      exact ⟨by rw [LB.out]; rfl, hk0.alloc _⟩

end Go.Proofs.YtefcmijobbgpbaaGreatDoor

namespace Go.Proofs.YtefcmijobbgpbaaGreatDoor
open Go.RowKit

theorem extract_list (s : ByteArray) (a b : Nat) : s.extract a b = ⟨((s.data.toList.drop a).take (b - a)).toArray⟩ := by
  apply ByteArray.ext
  apply Array.toList_inj.1
  simp [List.extract_eq_take_drop]

/-- The longest sign that stands at the head. -/
def signS : List UInt8 → List UInt8
  | [] => []
  | c :: r => if (c = 60 ∨ c = 61 ∨ c = 33) ∧ r.head? = some 61 then [c, 61] else if isSign c = true ∧ c ≠ 33 then [c] else []

theorem Keeps.drewN {S : List Nat} {a w : World} (h : Keeps S a w) (n : Nat) : Keeps S a (w.drewN n) := ⟨h.os, h.tape, h.output, h.size, h.block⟩

def oneSigns : List UInt8 := [40, 41, 58, 59, 46, 43, 45, 42, 60, 61]

theorem oneSigns_iff (c : UInt8) : oneSigns.contains c = true ↔ (isSign c = true ∧ c ≠ 33) := by
  have := all_bytes (p := fun c => oneSigns.contains c == (isSign c && c != 33)) (by decide +kernel) c
  simp only [beq_iff_eq] at this
  rw [this]
  simp

set_option maxHeartbeats 2000000 in
set_option maxRecDepth 100000 in
theorem refSign_any (s : ByteArray) (at_ : Nat) (w : World) (hat : at_ < s.size) (hs : s.size ≤ 4611686018427387904) :
    Calls Tryz.prog 98 #[.string s, .int .i64 (at_ : Int)] w fun e w' => e = .returned (.string ⟨(signS (s.data.toList.drop at_)).toArray⟩) ∧ Keeps [] w w' := by
  have hk0 := Keeps.refl [] w
  have hsz : s.data.toList.length = s.size := rfl
  have hd : s.data.toList.drop at_ = s[at_] :: s.data.toList.drop (at_ + 1) := List.drop_eq_getElem_cons (by exact hat)
  have ex1 : s.extract at_ (at_ + 1) = ⟨[s[at_]].toArray⟩ := by
    rw [extract_list, hd]
    have : at_ + 1 - at_ = 1 := by omega
    rw [this]
    rfl
  have ex2 : ∀ h : at_ + 1 < s.size, s.extract at_ (at_ + 2) = ⟨[s[at_], s[at_ + 1]].toArray⟩ := by
    intro h
    rw [extract_list, hd, List.drop_eq_getElem_cons (by exact h)]
    have : at_ + 2 - at_ = 2 := by omega
    rw [this]
    rfl
  have hh : ∀ h : at_ + 1 < s.size, (s.data.toList.drop (at_ + 1)).head? = some s[at_ + 1] := by
    intro h
    rw [List.drop_eq_getElem_cons (by exact h)]
    rfl
  have hh0 : ¬ at_ + 1 < s.size → (s.data.toList.drop (at_ + 1)).head? = none := by
    intro h
    rw [List.drop_eq_nil_of_le (by omega)]
    rfl
  have L2 : ∀ h : at_ + 1 < s.size, s[at_ + 1].toNat = 61 → (s[at_].toNat = 60 ∨ s[at_].toNat = 61 ∨ s[at_].toNat = 33) → (⟨(signS (s.data.toList.drop at_)).toArray⟩ : ByteArray) = s.extract at_ (at_ + 2) := by
    intro h h1 h2
    have hc : s[at_] = 60 ∨ s[at_] = 61 ∨ s[at_] = 33 := by
      rcases h2 with h | h | h
      · exact .inl (UInt8.toNat_inj.1 h)
      · exact .inr (.inl (UInt8.toNat_inj.1 h))
      · exact .inr (.inr (UInt8.toNat_inj.1 h))
    have h61 : s[at_ + 1] = 61 := UInt8.toNat_inj.1 h1
    rw [ex2 h, hd, signS, if_pos ⟨hc, by rw [hh h, h61]⟩, h61]
  have L1 : (¬ (at_ + 1 < s.size) ∨ (∃ h : at_ + 1 < s.size, s[at_ + 1].toNat ≠ 61) ∨ (s[at_].toNat ≠ 60 ∧ s[at_].toNat ≠ 61 ∧ s[at_].toNat ≠ 33)) → signS (s.data.toList.drop at_) = if isSign s[at_] = true ∧ s[at_] ≠ 33 then [s[at_]] else [] := by
    intro h
    rw [hd, signS, if_neg]
    rintro ⟨h1, h2⟩
    rcases h with h | ⟨h, h3⟩ | ⟨h3, h4, h5⟩
    · rw [hh0 h] at h2; cases h2
    · rw [hh h] at h2
      have := Option.some.inj h2
      exact h3 (by rw [this]; rfl)
    · rcases h1 with h | h | h <;> rw [h] at h3 h4 h5
      · exact h3 rfl
      · exact h4 rfl
      · exact h5 rfl
  have wr0 : IntKind.i64.wrap ((at_ : Int) + 1) = (at_ : Int) + 1 := IntWalk.i64_in _ (by omega)
  have wr2 : IntKind.i64.wrap ((at_ : Int) + 2) = (at_ : Int) + 2 := IntWalk.i64_in _ (by omega)
  have b0 : (0 : Int) ≤ (at_ : Int) := by omega
  have b1 : (at_ : Int) < (s.size : Int) := by omega
  have HX1 := Lib.hid ex1
  have HL2 := Lib.hid L2
  have HL1 := Lib.hid L1
  clear hh hh0 L1 L2 ex1 ex2 hd hsz
  go_enter Tryz.func98, Tryz.ntmps98
  by_cases hlt : at_ + 1 < s.size
  · have d1 : decide ((at_ : Int) + 1 < (s.size : Int)) = true := by simp; omega
    have c0 : (0 : Int) ≤ (at_ : Int) + 1 := by omega
    have c1 : (at_ : Int) + 1 < (s.size : Int) := by omega
    have c2 : (at_ : Int) + 2 ≤ (s.size : Int) := by omega
    go_wp2_with fail
    all_goals try simp only [beq_iff_eq, ne_eq, beq_eq_false_iff_ne] at *
    all_goals try (go_returns; exact ⟨by rw [HL2.out hlt (by omega) (by omega)]; rfl, hk0⟩)
    all_goals
      have hS := HL1.out (by first | exact .inr (.inl ⟨hlt, by omega⟩) | exact .inr (.inr ⟨by omega, by omega, by omega⟩))
      have hS := Lib.hid hS
      clear HL2 HL1
      go_loopw [6] (fun i wr => ∃ k : Nat, k ≤ 10 ∧ i = .int .i64 k ∧ Hid (∀ x, x < k → oneSigns[x]! ≠ s[at_]) ∧ Keeps [] w wr) (fun i _ => 10 - (intOf i).toNat)
      case atStart => exact ⟨0, by omega, rfl, Lib.hid (fun x hx => absurd hx (Nat.not_lt_zero x)), hk0⟩
      case round =>
        obtain ⟨k, hk10, rfl, hn, hk⟩ := hrel
        by_cases hlt : k < 10
        · have d1 : decide ((k : Int) < 10) = true := by simp; omega
          go_wp2_with fail
          have hat0 : oneSigns[k]! = oneSigns[k]'(by simp [oneSigns]; omega) := getElem!_pos oneSigns k (by simp [oneSigns]; omega)
          have hlist : ((⟨#[40, 41, 58, 59, 46, 43, 45, 42, 60, 61]⟩ : ByteArray)[k]'(by exact hlt)) = oneSigns[k]! := by rw [hat0]; rfl
          have Hlist := Lib.hid hlist
          clear hlist hat0
          have wrk : IntKind.i64.wrap ((k : Int) + 1) = (k : Int) + 1 := IntWalk.i64_in _ (by omega)
          have k0 : (0 : Int) ≤ (k : Int) := by omega
          have k1 : (k : Int) < 10 := by omega
          go_wp2_with fail
          repeat (go_quiet (fail); try go_wp2_with fail)
          · rename_i hcmp
            go_returns
            refine ⟨?_, hk.drewN _⟩
            have hin : isSign s[at_] = true ∧ s[at_] ≠ 33 := by
              have e : s[at_] = oneSigns[k]! := by
                rw [← Hlist.out]
                apply UInt8.toNat_inj.1
                have h0 := eq_of_beq hcmp
                omega
              rw [e]
              have : ∀ k : Fin 10, isSign oneSigns[k.val]! = true ∧ oneSigns[k.val]! ≠ 33 := by decide
              exact this ⟨k, hlt⟩
            rw [hS.out, if_pos hin]
            exact congrArg (fun x => Ending.returned (Value.string x)) HX1.out
          · rename_i hcmp
            refine ⟨⟨k + 1, by omega, by simp, Lib.hid (fun x hx => ?_), hk.drewN _⟩, by simp only [intOf]; omega⟩
            rcases Nat.lt_or_ge x k with h | h
            · exact hn.out x h
            · have e : x = k := by omega
              rw [e, ← Hlist.out]
              intro e
              rw [e] at hcmp
              simp at hcmp
        · have hk' : k = 10 := by omega
          subst hk'
          have hno : ¬ (isSign s[at_] = true ∧ s[at_] ≠ 33) := by
            rw [← oneSigns_iff, List.contains_iff_mem]
            intro hm
            obtain ⟨x, hx, hx2⟩ := List.mem_iff_getElem.1 hm
            refine hn.out x hx ?_
            rw [getElem!_pos oneSigns x hx, hx2]
          have hS := hS.out
          rw [if_neg hno] at hS
          have hS := Lib.hid hS
          clear hno
          go_wp2_with fail
          go_returns
          exact ⟨by rw [hS.out]; rfl, hk⟩
  · have d1 : decide ((at_ : Int) + 1 < (s.size : Int)) = false := by simp; omega
    have c2 : (at_ : Int) + 1 ≤ (s.size : Int) := by omega
    go_wp2_with fail
    all_goals
      have hS := HL1.out (.inl hlt)
      have hS := Lib.hid hS
      clear HL2 HL1
      go_loopw [6] (fun i wr => ∃ k : Nat, k ≤ 10 ∧ i = .int .i64 k ∧ Hid (∀ x, x < k → oneSigns[x]! ≠ s[at_]) ∧ Keeps [] w wr) (fun i _ => 10 - (intOf i).toNat)
      case atStart => exact ⟨0, by omega, rfl, Lib.hid (fun x hx => absurd hx (Nat.not_lt_zero x)), hk0⟩
      case round =>
        obtain ⟨k, hk10, rfl, hn, hk⟩ := hrel
        by_cases hlt : k < 10
        · have d1 : decide ((k : Int) < 10) = true := by simp; omega
          go_wp2_with fail
          have hat0 : oneSigns[k]! = oneSigns[k]'(by simp [oneSigns]; omega) := getElem!_pos oneSigns k (by simp [oneSigns]; omega)
          have hlist : ((⟨#[40, 41, 58, 59, 46, 43, 45, 42, 60, 61]⟩ : ByteArray)[k]'(by exact hlt)) = oneSigns[k]! := by rw [hat0]; rfl
          have Hlist := Lib.hid hlist
          clear hlist hat0
          have wrk : IntKind.i64.wrap ((k : Int) + 1) = (k : Int) + 1 := IntWalk.i64_in _ (by omega)
          have k0 : (0 : Int) ≤ (k : Int) := by omega
          have k1 : (k : Int) < 10 := by omega
          go_wp2_with fail
          repeat (go_quiet (fail); try go_wp2_with fail)
          · rename_i hcmp
            go_returns
            refine ⟨?_, hk.drewN _⟩
            have hin : isSign s[at_] = true ∧ s[at_] ≠ 33 := by
              have e : s[at_] = oneSigns[k]! := by
                rw [← Hlist.out]
                apply UInt8.toNat_inj.1
                have h0 := eq_of_beq hcmp
                omega
              rw [e]
              have : ∀ k : Fin 10, isSign oneSigns[k.val]! = true ∧ oneSigns[k.val]! ≠ 33 := by decide
              exact this ⟨k, hlt⟩
            rw [hS.out, if_pos hin]
            exact congrArg (fun x => Ending.returned (Value.string x)) HX1.out
          · rename_i hcmp
            refine ⟨⟨k + 1, by omega, by simp, Lib.hid (fun x hx => ?_), hk.drewN _⟩, by simp only [intOf]; omega⟩
            rcases Nat.lt_or_ge x k with h | h
            · exact hn.out x h
            · have e : x = k := by omega
              rw [e, ← Hlist.out]
              intro e
              rw [e] at hcmp
              simp at hcmp
        · have hk' : k = 10 := by omega
          subst hk'
          have hno : ¬ (isSign s[at_] = true ∧ s[at_] ≠ 33) := by
            rw [← oneSigns_iff, List.contains_iff_mem]
            intro hm
            obtain ⟨x, hx, hx2⟩ := List.mem_iff_getElem.1 hm
            refine hn.out x hx ?_
            rw [getElem!_pos oneSigns x hx, hx2]
          have hS := hS.out
          rw [if_neg hno] at hS
          have hS := Lib.hid hS
          clear hno
          go_wp2_with fail
          go_returns
          exact ⟨by rw [hS.out]; rfl, hk⟩

end Go.Proofs.YtefcmijobbgpbaaGreatDoor

namespace Go.Proofs.YtefcmijobbgpbaaGreatDoor
open Go.RowKit


theorem take_snoc {l : List UInt8} {a j : Nat} (h : a ≤ j) (hj : j < l.length) : (l.drop a).take (j + 1 - a) = (l.drop a).take (j - a) ++ [l[j]] := by
  have e : j + 1 - a = (j - a) + 1 := by omega
  have hlt : j - a < (l.drop a).length := by rw [List.length_drop]; omega
  rw [e, List.take_succ_eq_append_getElem hlt]
  congr 2
  rw [List.getElem_drop]
  congr 1
  omega

set_option maxHeartbeats 2000000 in
set_option maxRecDepth 100000 in
theorem refNumber_any (s : ByteArray) (at_ : Nat) (w : World) (hat : at_ < s.size) (_hdg : isDigit s[at_] = true) (hs : s.size ≤ 4611686018427387904) :
    Calls Tryz.prog 96 #[.string s, .int .i64 (at_ : Int)] w fun e w' => (∃ N : Int, e = .returned (.tuple #[tokV 2 ⟨#[]⟩ N at_, .int .i64 ((at_ + spanN isDigit (s.data.toList.drop at_) : Nat) : Int), .bool (decide (numVal ((s.data.toList.drop at_).take (spanN isDigit (s.data.toList.drop at_))) ≤ 9223372036854775807) && (decide (s[at_] ≠ 48) || decide (spanN isDigit (s.data.toList.drop at_) = 1)))]) ∧
      (numVal ((s.data.toList.drop at_).take (spanN isDigit (s.data.toList.drop at_))) ≤ 9223372036854775807 → N = (numVal ((s.data.toList.drop at_).take (spanN isDigit (s.data.toList.drop at_))) : Nat))) ∧ Keeps [] w w' := by
  have hk0 := Keeps.refl [] w
  have hsz : s.data.toList.length = s.size := rfl
  have b0 : (0 : Int) ≤ (at_ : Int) := by omega
  have b1 : (at_ : Int) < (s.size : Int) := by omega
  go_enter Tryz.func96, Tryz.ntmps96
  go_wp2_with fail
  go_loopw [7, 8, 9] (fun i n ok wr => ∃ (j N : Nat) (O : Bool), at_ ≤ j ∧ j ≤ s.size ∧ i = .int .i64 j ∧ n = .int .u64 N ∧ ok = .bool O ∧ at_ + spanN isDigit (s.data.toList.drop at_) = j + spanN isDigit (s.data.toList.drop j) ∧ N ≤ 9223372036854775807 ∧ Hid (O = decide (numVal ((s.data.toList.drop at_).take (j - at_)) ≤ 9223372036854775807) ∧ (O = true → N = numVal ((s.data.toList.drop at_).take (j - at_)))) ∧ wr = w.alloc tok0) (fun i _ _ _ => s.size - (intOf i).toNat)
  case atStart =>
    refine ⟨at_, 0, true, Nat.le_refl _, by omega, rfl, rfl, rfl, rfl, by decide, Lib.hid ?_, rfl⟩
    rw [Nat.sub_self, List.take_zero]
    exact ⟨rfl, fun _ => rfl⟩
  case round =>
    obtain ⟨j, N, O, hj1, hj2, rfl, rfl, rfl, he, hN, hO, rfl⟩ := hrel
    unfold tok0
    have wN : wrap64 (N : Int) = (N : Int) := IntWalk.wrap64_in _ ⟨by omega, by have : N ≤ 9223372036854775807 := hN; omega⟩
    have fin : at_ + spanN isDigit (s.data.toList.drop at_) = j → Hid ((∀ b : Bool, b = (O && (decide (s[at_].toNat ≠ 48) || decide (j = at_ + 1))) → Ending.returned (.tuple #[.agg #[.int .i64 2, .string ⟨#[]⟩, .int .i64 N, .int .i64 at_], .int .i64 j, .bool b]) =
        .returned (.tuple #[tokV 2 ⟨#[]⟩ N at_, .int .i64 ((at_ + spanN isDigit (s.data.toList.drop at_) : Nat) : Int), .bool (decide (numVal ((s.data.toList.drop at_).take (spanN isDigit (s.data.toList.drop at_))) ≤ 9223372036854775807) && (decide (s[at_] ≠ 48) || decide (spanN isDigit (s.data.toList.drop at_) = 1)))])) ∧
        (numVal ((s.data.toList.drop at_).take (spanN isDigit (s.data.toList.drop at_))) ≤ 9223372036854775807 → (N : Int) = (numVal ((s.data.toList.drop at_).take (spanN isDigit (s.data.toList.drop at_))) : Nat))) := by
      intro hend
      have e1 : spanN isDigit (s.data.toList.drop at_) = j - at_ := by omega
      obtain ⟨o1, o2⟩ := hO.out
      refine Lib.hid ⟨?_, ?_⟩
      · rintro b rfl
        rw [hend, e1, ← o1]
        have e2 : decide (s[at_].toNat ≠ 48) = decide (s[at_] ≠ 48) := decide_eq_decide.2 (not_congr ⟨fun h => UInt8.toNat_inj.1 h, fun h => by rw [h]; rfl⟩)
        have e3 : decide (j = at_ + 1) = decide (j - at_ = 1) := decide_eq_decide.2 (by omega)
        rw [e2, e3]
        rfl
      · rw [e1]
        intro h
        rw [o2 (by rw [o1]; simp [h])]
    by_cases hlt : j < s.size
    · have d1 : decide ((j : Int) < (s.size : Int)) = true := by simp; omega
      have c0 : (0 : Int) ≤ (j : Int) := by omega
      have c1 : (j : Int) < (s.size : Int) := by omega
      have hsp := span_at (p := isDigit) (l := s.data.toList) (j := j) (by rw [hsz]; exact hlt)
      have hjc : s.data.toList[j] = s[j] := rfl
      have htk := take_snoc hj1 (by rw [hsz]; exact hlt)
      rw [hjc] at hsp htk
      clear hjc
      have HE := Lib.hid he
      have HT := Lib.hid htk
      clear he htk hsz
      have HD := fun w => digit_any s[j] w
      cases h1 : isDigit s[j]
      all_goals
        rw [h1] at hsp HD
        have HS := Lib.hid hsp
        have HD := fun w => Lib.hid (HD w)
        clear hsp
      · have hend : at_ + spanN isDigit (s.data.toList.drop at_) = j := by rw [HE.out, HS.out]; rfl
        have hF := fin hend
        clear HE HS HT fin
        go_wp2_with (go_at_call 95; refine (HD _).out.mono ?_; rintro e w' ⟨rfl, rfl⟩)
        all_goals
          go_returns
          exact ⟨⟨N, hF.out.1 _ (by clear hF; rw [Bool.eq_iff_iff]; first | (simp_all; done) | (simp_all; omega)), hF.out.2⟩, hk0.alloc _⟩
      · have hdv := digit_val h1
        have wr1 : IntKind.i64.wrap ((j : Int) + 1) = (j : Int) + 1 := IntWalk.i64_in _ (by omega)
        have hnx : at_ + spanN isDigit (s.data.toList.drop at_) = j + 1 + spanN isDigit (s.data.toList.drop (j + 1)) := by rw [HE.out, HS.out]; simp; omega
        have hnx := Lib.hid hnx
        clear h1 fin HE HS
        go_wp2_with (go_at_call 95; refine (HD _).out.mono ?_; rintro e w' ⟨rfl, rfl⟩)
        · rename_i hO1 hle
          have hv := hO.out.2 hO1
          have hle2 : N * 10 + (s[j].toNat - 48) ≤ 9223372036854775807 := by omega
          refine ⟨⟨j + 1, N * 10 + (s[j].toNat - 48), true, by omega, by omega, by simp, ?_, by simp [hle], hnx.out, hle2, Lib.hid ?_, trivial⟩, by simp only [intOf]; omega⟩
          · congr 1; omega
          · rw [HT.out, numVal_snoc, ← hv]
            exact ⟨by simp [hle2], fun _ => rfl⟩
        · rename_i hO1 hle
          have hv := hO.out.2 hO1
          have hle2 : ¬ (N * 10 + (s[j].toNat - 48) ≤ 9223372036854775807) := by omega
          refine ⟨⟨j + 1, N, false, by omega, by omega, by simp, rfl, by simp; omega, hnx.out, hN, Lib.hid ?_, trivial⟩, by simp only [intOf]; omega⟩
          rw [HT.out, numVal_snoc, ← hv]
          exact ⟨by simp [hle2], fun h => by cases h⟩
        · rename_i hO1
          have hv := hO.out.1
          have hO2 : O = false := by simpa using hO1
          rw [hO2] at hv
          have hle2 : ¬ (numVal ((s.data.toList.drop at_).take (j - at_)) ≤ 9223372036854775807) := by simpa using hv
          refine ⟨⟨j + 1, N, false, by omega, by omega, by simp, rfl, rfl, hnx.out, hN, Lib.hid ?_, trivial⟩, by simp only [intOf]; omega⟩
          rw [HT.out, numVal_snoc]
          have hle3 : ¬ (numVal ((s.data.toList.drop at_).take (j - at_)) * 10 + (s[j].toNat - 48) ≤ 9223372036854775807) := by omega
          exact ⟨by simp only [hle3, decide_false], fun h => by cases h⟩
    · have h0 : spanN isDigit (s.data.toList.drop j) = 0 := by
        rw [List.drop_eq_nil_of_le (by omega)]
        rfl
      have hend : at_ + spanN isDigit (s.data.toList.drop at_) = j := by rw [he, h0]; rfl
      have hF := fin hend
      have d1 : decide ((j : Int) < (s.size : Int)) = false := by simp; omega
      clear he h0 fin
      go_wp2_with fail
      all_goals
        go_returns
        exact ⟨⟨N, hF.out.1 _ (by clear hF; rw [Bool.eq_iff_iff]; first | (simp_all; done) | (simp_all; omega)), hF.out.2⟩, hk0.alloc _⟩

end Go.Proofs.YtefcmijobbgpbaaGreatDoor

namespace Go.Proofs.YtefcmijobbgpbaaGreatDoor
open Go.RowKit

/-- What 'one' answers at a place: the token that begins there and its end, or that there is none. -/
def OneIs (s : ByteArray) (at_ : Nat) (v : Value) : Prop :=
  match lexOne (s.data.toList.drop at_) with
  | some (t, k) => v = .tuple #[tokV t.kind ⟨t.s.toArray⟩ t.n at_, .int .i64 ((at_ + k : Nat) : Int), .bool true]
  | none => ∃ (a : Int) (b : ByteArray) (c d E : Int), v = .tuple #[tokV a b c d, .int .i64 E, .bool false]

theorem OneIs.of_some {s : ByteArray} {at_ : Nat} {v : Value} {t : Tok} {k : Nat} (h : lexOne (s.data.toList.drop at_) = some (t, k)) (hv : v = .tuple #[tokV t.kind ⟨t.s.toArray⟩ t.n at_, .int .i64 ((at_ + k : Nat) : Int), .bool true]) : OneIs s at_ v := by
  unfold OneIs; rw [h]; exact hv
theorem OneIs.of_none {s : ByteArray} {at_ : Nat} {v : Value} (h : lexOne (s.data.toList.drop at_) = none) (a : Int) (b : ByteArray) (c d E : Int) (hv : v = .tuple #[tokV a b c d, .int .i64 E, .bool false]) : OneIs s at_ v := by
  unfold OneIs; rw [h]; exact ⟨a, b, c, d, E, hv⟩

/-- The four kinds, each as its own reader answers it. -/
theorem oneIs_word {s : ByteArray} {at_ : Nat} (hat : at_ < s.size) (hl : isLetter s[at_] = true) : OneIs s at_ (.tuple #[tokV 1 (s.extract at_ (at_ + spanN isAlnum (s.data.toList.drop at_))) 0 at_, .int .i64 ((at_ + spanN isAlnum (s.data.toList.drop at_) : Nat) : Int), .bool (decide (spanN isAlnum (s.data.toList.drop at_) ≤ 32))]) := by
  have hd : s.data.toList.drop at_ = s[at_] :: s.data.toList.drop (at_ + 1) := List.drop_eq_getElem_cons (by exact hat)
  by_cases h : spanN isAlnum (s.data.toList.drop at_) ≤ 32
  · refine OneIs.of_some (t := ⟨1, (s.data.toList.drop at_).take (spanN isAlnum (s.data.toList.drop at_)), 0⟩) (k := spanN isAlnum (s.data.toList.drop at_)) ?_ ?_
    · rw [hd] at h ⊢
      rw [lexOne, if_pos hl, if_pos h]
    · rw [extract_list, Nat.add_sub_cancel_left]
      simp [h]
  · refine OneIs.of_none ?_ 1 (s.extract at_ (at_ + spanN isAlnum (s.data.toList.drop at_))) 0 at_ ((at_ + spanN isAlnum (s.data.toList.drop at_) : Nat) : Int) (by simp only [h, decide_false])
    rw [hd] at h ⊢
    rw [lexOne, if_pos hl, if_neg h]

theorem oneIs_number {s : ByteArray} {at_ : Nat} (hat : at_ < s.size) (hl : isLetter s[at_] = false) (hg : isDigit s[at_] = true) (N : Int)
    (hN : numVal ((s.data.toList.drop at_).take (spanN isDigit (s.data.toList.drop at_))) ≤ 9223372036854775807 → N = (numVal ((s.data.toList.drop at_).take (spanN isDigit (s.data.toList.drop at_))) : Nat)) :
    OneIs s at_ (.tuple #[tokV 2 ⟨#[]⟩ N at_, .int .i64 ((at_ + spanN isDigit (s.data.toList.drop at_) : Nat) : Int), .bool (decide (numVal ((s.data.toList.drop at_).take (spanN isDigit (s.data.toList.drop at_))) ≤ 9223372036854775807) && (decide (s[at_] ≠ 48) || decide (spanN isDigit (s.data.toList.drop at_) = 1)))]) := by
  have hd : s.data.toList.drop at_ = s[at_] :: s.data.toList.drop (at_ + 1) := List.drop_eq_getElem_cons (by exact hat)
  by_cases h : numVal ((s.data.toList.drop at_).take (spanN isDigit (s.data.toList.drop at_))) ≤ 9223372036854775807 ∧ (s[at_] ≠ 48 ∨ spanN isDigit (s.data.toList.drop at_) = 1)
  · refine OneIs.of_some (t := ⟨2, [], numVal ((s.data.toList.drop at_).take (spanN isDigit (s.data.toList.drop at_)))⟩) (k := spanN isDigit (s.data.toList.drop at_)) ?_ ?_
    · rw [hd] at h ⊢
      rw [lexOne, if_neg (by simp [hl]), if_pos hg, if_pos h]
    · rw [hN h.1]
      have e : (decide (numVal ((s.data.toList.drop at_).take (spanN isDigit (s.data.toList.drop at_))) ≤ 9223372036854775807) && (decide (s[at_] ≠ 48) || decide (spanN isDigit (s.data.toList.drop at_) = 1))) = true := by simpa using h
      rw [e]
      rfl
  · have e : (decide (numVal ((s.data.toList.drop at_).take (spanN isDigit (s.data.toList.drop at_))) ≤ 9223372036854775807) && (decide (s[at_] ≠ 48) || decide (spanN isDigit (s.data.toList.drop at_) = 1))) = false := by
      rw [← Bool.not_eq_true]
      intro h2
      exact h (by simpa using h2)
    refine OneIs.of_none ?_ 2 _ N at_ _ (by rw [e])
    rw [hd] at h ⊢
    rw [lexOne, if_neg (by simp [hl]), if_pos hg, if_neg h]

theorem oneIs_text {s : ByteArray} {at_ : Nat} (hat : at_ < s.size) (h39 : s[at_] = 39) : OneIs s at_ (refTextV s at_) := by
  have hd : s.data.toList.drop at_ = s[at_] :: s.data.toList.drop (at_ + 1) := List.drop_eq_getElem_cons (by exact hat)
  have hl : isLetter s[at_] = false := by rw [h39]; decide
  have hg : isDigit s[at_] = false := by rw [h39]; decide
  unfold refTextV
  split
  · rename_i h
    refine OneIs.of_some (t := ⟨3, (s.data.toList.drop (at_ + 1)).take (spanN inText (s.data.toList.drop (at_ + 1))), 0⟩) (k := spanN inText (s.data.toList.drop (at_ + 1)) + 2) ?_ ?_
    · rw [hd, lexOne, if_neg (by simp [hl]), if_neg (by simp [hg]), if_pos h39, if_pos h]
    · rw [extract_list, Nat.add_sub_cancel_left]
      rfl
  · rename_i h
    refine OneIs.of_none ?_ 0 _ 0 0 _ rfl
    rw [hd, lexOne, if_neg (by simp [hl]), if_neg (by simp [hg]), if_pos h39, if_neg h]

theorem oneIs_sign {s : ByteArray} {at_ : Nat} (hat : at_ < s.size) (hl : isLetter s[at_] = false) (hg : isDigit s[at_] = false) (h39 : s[at_] ≠ 39) :
    OneIs s at_ (.tuple #[tokV 4 ⟨(signS (s.data.toList.drop at_)).toArray⟩ 0 at_, .int .i64 ((at_ + (signS (s.data.toList.drop at_)).length : Nat) : Int), .bool (decide (signS (s.data.toList.drop at_) ≠ []))]) := by
  have hd : s.data.toList.drop at_ = s[at_] :: s.data.toList.drop (at_ + 1) := List.drop_eq_getElem_cons (by exact hat)
  have hs33 : (s[at_] = 60 ∨ s[at_] = 61 ∨ s[at_] = 33) → isSign s[at_] = true := by
    rintro (h | h | h) <;> rw [h] <;> decide
  rw [hd]
  generalize s.data.toList.drop (at_ + 1) = r at *
  generalize s[at_] = c at *
  by_cases h1 : (c = 60 ∨ c = 61 ∨ c = 33) ∧ r.head? = some 61
  · refine OneIs.of_some (t := ⟨4, [c, 61], 0⟩) (k := 2) ?_ ?_
    · rw [hd, lexOne, if_neg (by simp [hl]), if_neg (by simp [hg]), if_neg h39, if_pos (hs33 h1.1), if_pos h1]
    · rw [signS, if_pos h1]
      rfl
  · by_cases h2 : isSign c = true ∧ c ≠ 33
    · refine OneIs.of_some (t := ⟨4, [c], 0⟩) (k := 1) ?_ ?_
      · rw [hd, lexOne, if_neg (by simp [hl]), if_neg (by simp [hg]), if_neg h39, if_pos h2.1, if_neg h1, if_neg h2.2]
      · rw [signS, if_neg h1, if_pos h2]
        rfl
    · refine OneIs.of_none ?_ 4 _ 0 at_ (at_ + 0 : Nat) (by rw [signS, if_neg h1, if_neg h2]; rfl)
      rw [hd, lexOne, if_neg (by simp [hl]), if_neg (by simp [hg]), if_neg h39]
      split
      · rename_i h3
        rw [if_pos]
        apply Classical.byContradiction
        intro h4
        exact h2 ⟨h3, h4⟩
      · rfl

theorem tok_block {w : World} {B : Nat} {a b c d : Value} {t : TypeId} (h : w.heap[B]? = some (.cells #[a, b, c, d] t)) :
    w.cell? ⟨B, 0, none⟩ = some a ∧ w.cell? ⟨B, 1, none⟩ = some b ∧ w.cell? ⟨B, 2, none⟩ = some c ∧ w.cell? ⟨B, 3, none⟩ = some d ∧
      w.frozen? ⟨B, 0, none⟩ = false ∧ w.frozen? ⟨B, 1, none⟩ = false ∧ w.frozen? ⟨B, 2, none⟩ = false ∧ w.frozen? ⟨B, 3, none⟩ = false := by
  simp [World.cell?, World.frozen?, h]

theorem Keeps.set4 {S : List Nat} {a w : World} (h : Keeps S a w) {B : Nat} (hB : a.heap.size ≤ B) (p q r u : Value) :
    Keeps S a ((((w.setCell ⟨B, 0, none⟩ p).setCell ⟨B, 1, none⟩ q).setCell ⟨B, 2, none⟩ r).setCell ⟨B, 3, none⟩ u) :=
  (((h.setCell (.inr hB) _).setCell (.inr hB) _).setCell (.inr hB) _).setCell (.inr hB) _

theorem set4_block {w : World} {B : Nat} {a b c d : Value} {t : TypeId} (h : w.heap[B]? = some (.cells #[a, b, c, d] t)) (p q r u : Value) :
    ((((w.setCell ⟨B, 0, none⟩ p).setCell ⟨B, 1, none⟩ q).setCell ⟨B, 2, none⟩ r).setCell ⟨B, 3, none⟩ u).heap[B]? = some (.cells #[p, q, r, u] t (0, 0)) := by
  rw [heap_set_self (heap_set_self (heap_set_self (heap_set_self h)))]
  rfl

/-- A return of a struct that lies in a block, and two more. -/
theorem ret_row2 {P : Program} {fn : Func} {R : Ending → World → Prop} {a : Act} {w : World} {p u v : Tmp} {ty : TypeId} (h : fn.results = #[.cell p ty, .tmp u, .tmp v]) (g : Nat) (t : TypeId) (cs : Array Value) (fr : Nat × Nat) (d : TypeDesc)
    (hp : a.tmps.getD p undef = .pointer (some ⟨g, 0, none⟩)) (hg : w.heap[g]? = some (.cells cs t fr))
    (hu : P.underlying ty = some d) (hd : (match d with | .struct _ | .array _ _ => true | _ => false) = true) (hi : (P.info? ty).map (·.size) = some cs.size) (hdf : a.defers = [])
    (hR : R (.returned (.tuple #[.agg cs, a.tmps.getD u undef, a.tmps.getD v undef])) w) : bodyPost P fn R .ret a w := by
  refine bodyPost_ret (v := .tuple #[.agg cs, a.tmps.getD u undef, a.tmps.getD v undef]) ?_ hdf hR
  have hp' : a.tmps[p]?.getD undef = .pointer (some ⟨g, 0, none⟩) := by simpa using hp
  simp [results, h, hp', asAddr, run_loadVar_row w g t ty cs fr d hg hu hd hi]

/-- The form of what 'one' answers, and under what it is right. -/
def OneOut (s : ByteArray) (at_ : Nat) (c : Prop) (e : Ending) : Prop :=
  ∃ (a : Int) (b : ByteArray) (n d E : Int) (o : Bool), e = .returned (.tuple #[.agg #[.int .i64 a, .string b, .int .i64 n, .int .i64 d], .int .i64 E, .bool o]) ∧
    (c → OneIs s at_ (.tuple #[.agg #[.int .i64 a, .string b, .int .i64 n, .int .i64 d], .int .i64 E, .bool o]))

theorem text_out (s : ByteArray) (at_ : Nat) (hat : at_ < s.size) : OneOut s at_ (s[at_] = 39) (.returned (refTextV s at_)) := by
  have h : ∃ (a : Int) (b : ByteArray) (n d E : Int) (o : Bool), refTextV s at_ = (.tuple #[.agg #[.int .i64 a, .string b, .int .i64 n, .int .i64 d], .int .i64 E, .bool o]) := by
    unfold refTextV
    split
    · exact ⟨_, _, _, _, _, _, rfl⟩
    · exact ⟨_, _, _, _, _, _, rfl⟩
  obtain ⟨a, b, n, d, E, o, h⟩ := h
  exact ⟨a, b, n, d, E, o, by rw [h], fun h39 => h ▸ oneIs_text hat h39⟩

set_option maxHeartbeats 2000000 in
set_option maxRecDepth 100000 in
theorem refOne_any (s : ByteArray) (at_ : Nat) (w : World) (hat : at_ < s.size) (hs : s.size ≤ 4611686018427387904) :
    Calls Tryz.prog 78 #[.string s, .int .i64 (at_ : Int)] w fun e w' => OneOut s at_ True e ∧ Keeps [] w w' := by
  have hk0 := Keeps.refl [] w
  have b0 : (0 : Int) ≤ (at_ : Int) := by omega
  have b1 : (at_ : Int) < (s.size : Int) := by omega
  have HL := fun w => letter_any s[at_] w
  have HD := fun w => digit_any s[at_] w
  have HS := fun w => Lib.hid (refSign_any s at_ w hat hs)
  have HT : ∀ w, Hid (Calls Tryz.prog 97 #[.string s, .int .i64 (at_ : Int)] w fun e w' => OneOut s at_ (s[at_] = 39) e ∧ Keeps [] w w') := fun w => Lib.hid ((refText_any s at_ w hat hs).mono fun e w' ⟨h1, h2⟩ => ⟨h1 ▸ text_out s at_ hat, h2⟩)
  cases h1 : isLetter s[at_] with
  | true =>
    rw [h1] at HL
    have HL := fun w => Lib.hid (HL w)
    have HW : ∀ w, Hid (Calls Tryz.prog 94 #[.string s, .int .i64 (at_ : Int)] w fun e w' => OneOut s at_ True e ∧ Keeps [] w w') := fun w => Lib.hid ((refWord_any s at_ w (Nat.le_of_lt hat) hs).mono fun e w' ⟨h3, h2⟩ => ⟨h3 ▸ ⟨_, _, _, _, _, _, rfl, fun _ => oneIs_word hat h1⟩, h2⟩)
    clear h1
    go_enter Tryz.func78, Tryz.ntmps78
    go_wp2_with (first
      | (go_at_call 93; refine (HL _).out.mono ?_; rintro e w' ⟨rfl, rfl⟩)
      | (go_at_call 94; refine (HW _).out.mono ?_; rintro e w' ⟨⟨a, b, n, d, E, o, rfl, ho⟩, hkk⟩; have HO := Lib.hid ho; clear ho; obtain ⟨c0, c1, c2, c3, z0, z1, z2, z3⟩ := tok_block (hkk.heap (heap_alloc_new _ _) (by simp))))
    refine ret_row2 rfl w.heap.size _ _ _ _ rfl (set4_block (hkk.heap (heap_alloc_new _ _) (by simp)) _ _ _ _) Tryz.underlying91 rfl (by kernel_rfl) rfl ?_
    exact ⟨⟨a, b, n, d, E, o, rfl, fun _ => HO.out trivial⟩, Keeps.set4 ((hk0.alloc _).then hkk) (Nat.le_refl _) _ _ _ _⟩
  | false =>
    rw [h1] at HL
    have HL := fun w => Lib.hid (HL w)
    cases h2 : isDigit s[at_] with
    | true =>
      rw [h2] at HD
      have HD := fun w => Lib.hid (HD w)
      have HN : ∀ w, Hid (Calls Tryz.prog 96 #[.string s, .int .i64 (at_ : Int)] w fun e w' => OneOut s at_ True e ∧ Keeps [] w w') := fun w => Lib.hid ((refNumber_any s at_ w hat h2 hs).mono fun e w' ⟨⟨N, h3, hN⟩, h4⟩ => ⟨h3 ▸ ⟨_, _, _, _, _, _, rfl, fun _ => oneIs_number hat h1 h2 N hN⟩, h4⟩)
      clear h1 h2
      go_enter Tryz.func78, Tryz.ntmps78
      go_wp2_with (first
      | (go_at_call 93; refine (HL _).out.mono ?_; rintro e w' ⟨rfl, rfl⟩)
      | (go_at_call 95; refine (HD _).out.mono ?_; rintro e w' ⟨rfl, rfl⟩)
      | (go_at_call 96; refine (HN _).out.mono ?_; rintro e w' ⟨⟨a, b, n, d, E, o, rfl, ho⟩, hkk⟩; have HO := Lib.hid ho; clear ho; obtain ⟨c0, c1, c2, c3, z0, z1, z2, z3⟩ := tok_block (hkk.heap (heap_alloc_new _ _) (by simp))))
      refine ret_row2 rfl w.heap.size _ _ _ _ rfl (set4_block (hkk.heap (heap_alloc_new _ _) (by simp)) _ _ _ _) Tryz.underlying91 rfl (by kernel_rfl) rfl ?_
      exact ⟨⟨a, b, n, d, E, o, rfl, fun _ => HO.out trivial⟩, Keeps.set4 ((hk0.alloc _).then hkk) (Nat.le_refl _) _ _ _ _⟩
    | false =>
      rw [h2] at HD
      have HD := fun w => Lib.hid (HD w)
      have HG := Lib.hid (oneIs_sign hat h1 h2)
      have hwr : IntKind.i64.wrap ((at_ : Int) + (signS (s.data.toList.drop at_)).length) = (at_ : Int) + (signS (s.data.toList.drop at_)).length := by
        apply IntWalk.i64_in
        have : (signS (s.data.toList.drop at_)).length ≤ 2 := by
          unfold signS
          split
          · simp
          · split
            · simp
            · split <;> simp
        omega
      clear h1 h2
      generalize hsg : signS (s.data.toList.drop at_) = sg at *
      clear hsg
      go_enter Tryz.func78, Tryz.ntmps78
      go_wp2_with (first
      | (go_at_call 93; refine (HL _).out.mono ?_; rintro e w' ⟨rfl, rfl⟩)
      | (go_at_call 95; refine (HD _).out.mono ?_; rintro e w' ⟨rfl, rfl⟩)
      | (go_at_call 97; refine (HT _).out.mono ?_; rintro e w' ⟨⟨a, b, n, d, E, o, rfl, ho⟩, hkk⟩; have HO := Lib.hid ho; clear ho; obtain ⟨c0, c1, c2, c3, z0, z1, z2, z3⟩ := tok_block (hkk.heap (heap_alloc_new _ _) (by simp)))
      | (go_at_call 98; refine (HS _).out.mono ?_; rintro e w' ⟨rfl, hkk⟩; obtain ⟨c0, c1, c2, c3, z0, z1, z2, z3⟩ := tok_block (hkk.heap (heap_alloc_new _ _) (by simp))))
      all_goals refine ret_row2 rfl w.heap.size _ _ _ _ rfl (set4_block (hkk.heap (heap_alloc_new _ _) (by simp)) _ _ _ _) Tryz.underlying91 rfl (by kernel_rfl) rfl ?_
      · rename_i h39
        have h3 := eq_of_beq h39
        exact ⟨⟨a, b, n, d, E, o, rfl, fun _ => HO.out (UInt8.toNat_inj.1 (by simp; omega))⟩, Keeps.set4 ((hk0.alloc _).then hkk) (Nat.le_refl _) _ _ _ _⟩
      · rename_i h39
        have h3 : s[at_] ≠ 39 := fun h => by rw [h] at h39; exact absurd h39 (by decide)
        have hg := HG.out h3
        have e1 : decide (sg ≠ []) = !sg.isEmpty := by cases sg <;> rfl
        rw [e1, Int.natCast_add] at hg
        exact ⟨⟨4, _, 0, at_, (at_ : Int) + sg.length, !sg.isEmpty, rfl, fun _ => hg⟩, Keeps.set4 ((hk0.alloc _).then hkk) (Nat.le_refl _) _ _ _ _⟩

end Go.Proofs.YtefcmijobbgpbaaGreatDoor

namespace Go.Proofs.YtefcmijobbgpbaaGreatDoor
open Go.RowKit

theorem foldl_ge (l : List UInt8) (n m : Nat) (h : n ≤ m) : n ≤ l.foldl (fun n d => n * 10 + (d.toNat - 48)) m := Nat.le_trans h (numVal_mono_start l m)

theorem numVal_take_le (l : List UInt8) (k : Nat) : numVal (l.take k) ≤ numVal l := by
  have h : numVal l = (l.drop k).foldl (fun n d => n * 10 + (d.toNat - 48)) (numVal (l.take k)) := by
    unfold numVal
    rw [← List.foldl_append, List.take_append_drop]
  rw [h]
  exact numVal_mono_start _ _

theorem not_empty {s : ByteArray} (h : 0 < s.size) : s.toList.isEmpty = false := by
  rw [ByteArray.toList_eq]
  cases hl : s.data.toList with
  | nil => have : s.data.toList.length = s.size := rfl; rw [hl] at this; simp at this; omega
  | cons _ _ => rfl

theorem Keeps.bytes {S : List Nat} {a w : World} (h : Keeps S a w) (e : TypeId) (s : ByteArray) : Keeps S a (Lib.bytesWorld w e s) :=
  h.then ⟨rfl, rfl, rfl, by rw [Lib.bytesWorld_size]; omega, fun k hk _ => Lib.bytesWorld_at_old w e s k hk⟩

/-- What the inner ParseUint answers at digits. -/
def parseV (v : Nat) : Value := if v ≤ 9223372036854775807 then .tuple #[.int .u64 v, .nilIface] else .tuple #[.int .u64 9223372036854775807, .iface 189 (.int .i64 1)]

set_option maxHeartbeats 4000000 in
set_option maxRecDepth 100000 in
theorem parseIn_any (s : ByteArray) (w : World) (hne : 0 < s.size) (hd : ∀ c ∈ s.data.toList, isDigit c = true) (hs : s.size ≤ 4611686018427387904) :
    Calls Tryz.prog 100 #[.string s, .int .i64 10, .int .i64 63] w fun e w' => e = .returned (parseV (numVal s.data.toList)) ∧ Keeps [] w w' := by
  have hk0 := Keeps.refl [] w
  have hne' : s.toList.isEmpty = false := not_empty hne
  have HD := Lib.hid hd
  clear hd
  have hcv := Lib.run_convert_string_bytes (P := Tryz.prog) w 9 124 5 s (u := .string) Tryz.underlying9 Tryz.underlying124 Tryz.underlying5
  have hB : ∀ j (hj : j < s.size), (Lib.bytesWorld w 5 s).cell? ⟨w.heap.size, j, none⟩ = some (.int .u8 s[j].toNat) := fun j hj => by
    rw [Lib.bytesWorld_cell w 5 s j hj]
    congr 3
    exact congrArg UInt8.toNat (List.getElem_eq_getD (l := s.data.toList) (h := hj) 0).symm
  have hK := Keeps.bytes (Keeps.refl [] w) 5 s
  obtain ⟨W1, hW1⟩ : ∃ W1, W1 = Lib.bytesWorld w 5 s := ⟨_, rfl⟩
  rw [← hW1] at hcv hB hK
  clear hW1
  have HB := Lib.hid hB
  clear hB
  go_enter Tryz.func100, Tryz.ntmps100
  go_wp2_with fail
  go_loop [12, 13, 101] (fun vu vn vi => ∃ (k : Nat) (a : Int), vu = .bool false ∧ vn = .int .u64 a ∧ vi = .int .i64 k ∧ k ≤ s.size ∧ Hid (a = (numVal (s.data.toList.take k) : Nat) ∧ a ≤ 9223372036854775807)) (fun _ _ vi => s.size - (intOf vi).toNat)
  case atStart => exact ⟨0, 0, rfl, rfl, rfl, Nat.zero_le _, Lib.hid ⟨rfl, by omega⟩⟩
  case round =>
    obtain ⟨k, a, rfl, rfl, rfl, hk, hh⟩ := hrel
    obtain ⟨ha, ham⟩ := hh.out
    clear hh
    have a0 : 0 ≤ a := by omega
    by_cases hkn : k < s.size
    · have hc := HB.out k hkn
      have hdg := HD.out s[k] (by exact List.getElem_mem (l := s.data.toList) hkn)
      obtain ⟨hd0, hd1⟩ := digit_val hdg
      have htk : numVal (s.data.toList.take (k + 1)) = numVal (s.data.toList.take k) * 10 + (s[k].toNat - 48) := by
        rw [List.take_succ_eq_append_getElem (show k < s.data.toList.length from hkn), numVal_snoc]
        rfl
      have hall := numVal_take_le s.data.toList (k + 1)
      generalize s[k] = c at *
      by_cases hov : 9223372036854775807 < a * 10 + ((c.toNat : Int) - 48)
      · have hV : parseV (numVal s.data.toList) = .tuple #[.int .u64 9223372036854775807, .iface 189 (.int .i64 1)] := by
          unfold parseV
          rw [if_neg (by omega)]
        have HV := Lib.hid hV
        have d1 : decide ((k : Int) < (s.size : Int)) = true := by simp; omega
        clear htk hall ha hdg hV
        by_cases hcut : 1844674407370955162 ≤ a
        · clear hov
          go_wp2_with fail
          go_returns
          exact ⟨by rw [HV.out]; rfl, hK⟩
        · by_cases hw : a * 10 + ((c.toNat : Int) - 48) < 18446744073709551616
          · go_wp2_with fail
            go_returns
            exact ⟨by rw [HV.out]; rfl, hK⟩
          · have hwr : IntKind.u64.wrap (a * 10 + ((c.toNat : Int) - 48)) = a * 10 + ((c.toNat : Int) - 48) - 18446744073709551616 := by
              rw [IntKind.wrap_u64]
              omega
            go_wp2_with fail
            go_returns
            exact ⟨by rw [HV.out]; rfl, hK⟩
      · have HN : Hid (a * 10 + ((c.toNat : Int) - 48) = (numVal (s.data.toList.take (k + 1)) : Nat) ∧ a * 10 + ((c.toNat : Int) - 48) ≤ 9223372036854775807) := Lib.hid ⟨by omega, by omega⟩
        have d1 : decide ((k : Int) < (s.size : Int)) = true := by simp; omega
        clear htk hall ha hdg
        go_wp2_with fail
        exact ⟨⟨k + 1, a * 10 + ((c.toNat : Int) - 48), rfl, rfl, by simp, by omega, HN⟩, by simp only [intOf]; omega⟩
    · have hke : k = s.size := by omega
      have hall : s.data.toList.take k = s.data.toList := List.take_of_length_le (by rw [hke]; exact Nat.le_refl _)
      have hV : parseV (numVal s.data.toList) = .tuple #[.int .u64 a, .nilIface] := by
        unfold parseV
        rw [hall] at ha
        rw [if_pos (by omega), ha]
      have HV := Lib.hid hV
      have d1 : decide ((k : Int) < (s.size : Int)) = false := by simp; omega
      clear hall ha hV hke
      go_wp2_with fail
      go_returns
      exact ⟨by rw [HV.out]; rfl, hK⟩

end Go.Proofs.YtefcmijobbgpbaaGreatDoor
