/- What Join answers, plainly; slices of tokens. Conditions: those of each theorem. -/
import Derived.Test.YtfoeadiejcheiaaDoorTokW
namespace Go.Proofs.YtfoeadiejcheiaaDoor
open Go.RowKit

structure TokR where
  kind : Int
  s : ByteArray
  n : Int
  at_ : Int

def TokR.ok (x : TokR) : Prop := -9223372036854775808 ≤ x.n ∧ x.n ≤ 9223372036854775807 ∧ x.s.size ≤ 140737488351232

def wtn (x : TokR) : Option (List UInt8) := writtenM x.kind x.s.data.toList x.n

def wrAll : List TokR → Option (List (List UInt8))
  | [] => some []
  | x :: r => match wtn x with
    | none => none
    | some a => match wrAll r with
      | none => none
      | some b => some (a :: b)

/-- Behind the end that may stand last. -/
def joinCore (l : List TokR) : Except Int (List UInt8) :=
  if 4096 < l.length then .error 2
  else match wrAll l with
    | none => .error 100
    | some ws => if 262144 < (joinW ws).length then .error 2 else .ok (joinW ws)

def joinM (l : List TokR) : Except Int (List UInt8) :=
  match l.getLast? with
  | none => joinCore l
  | some x => if x.kind = 0 then (if l.length - 1 ≤ 4096 ∧ (x.s.size ≠ 0 ∨ x.n ≠ 0) then .error 100 else joinCore l.dropLast) else joinCore l

def JoinOut (r : Except Int (List UInt8)) (e : Ending) : Prop :=
  match r with
  | .ok b => e = .returned (.tuple #[.string ⟨b.toArray⟩, .int .i64 0])
  | .error c => e = .returned (.tuple #[.string ⟨#[]⟩, .int .i64 c])

/-- A slice of tokens, as it reads. -/
def TokSl (w : World) (bk o : Nat) (l : List TokR) : Prop :=
  ∀ (j : Nat) (x : TokR), l[j]? = some x → w.cell? ⟨bk, o + j * 4, none⟩ = some (.int .i64 x.kind) ∧ w.cell? ⟨bk, o + j * 4 + 1, none⟩ = some (.string x.s) ∧ w.cell? ⟨bk, o + j * 4 + 2, none⟩ = some (.int .i64 x.n) ∧ w.cell? ⟨bk, o + j * 4 + 3, none⟩ = some (.int .i64 x.at_)

theorem TokSl.keep {w w' : World} {bk o : Nat} {l : List TokR} (h : TokSl w bk o l) (k : Keeps [] w w') : TokSl w' bk o l := fun j x hx => by
  obtain ⟨h0, h1, h2, h3⟩ := h j x hx
  exact ⟨k.cell h0 (by simp), k.cell h1 (by simp), k.cell h2 (by simp), k.cell h3 (by simp)⟩

theorem lexOne_short {l : List UInt8} {t : Tok} {k : Nat} (h : lexOne l = some (t, k)) : k ≤ 300 := by
  cases l with
  | nil => simp [lexOne] at h
  | cons c r =>
    simp only [lexOne] at h
    split at h
    · split at h
      · cases h; omega
      · cases h
    · split at h
      · rename_i hd
        split at h
        · rename_i hq
          cases h
          have hlen : ((c :: r).take (spanN isDigit (c :: r))).length = spanN isDigit (c :: r) := by
            rw [List.length_take]
            have := spanN_le isDigit (c :: r)
            omega
          have hpos := span_pos (r := r) hd
          have hdec := dec_of_num (spanN isDigit r) ((c :: r).take (spanN isDigit (c :: r))) (by rw [hlen, hpos]) (span_all _) (by
            rcases hq.2 with h1 | h1
            · left
              rw [hpos, List.take_succ_cons]
              simpa using h1
            · exact .inr (hlen.trans h1))
          have hi : (Lib.itoa ((numVal ((c :: r).take (spanN isDigit (c :: r))) : Nat) : Int)).length ≤ 21 := Lib.itoa_length_le _ (by omega) (by have := hq.1; omega)
          unfold Lib.itoa at hi
          rw [if_neg (by omega), Int.toNat_natCast, hdec, hlen] at hi
          omega
        · cases h
      · split at h
        · split at h
          · cases h; omega
          · cases h
        · split at h
          · split at h
            · cases h; omega
            · split at h
              · cases h
              · cases h; omega
          · cases h

theorem wtn_len {x : TokR} {a : List UInt8} (h : wtn x = some a) : 1 ≤ a.length ∧ a.length ≤ 300 := by
  obtain ⟨t, hl, _⟩ := written_some h
  exact ⟨(lexOne_len hl).1, lexOne_short hl⟩

theorem wrAll_snoc (l : List TokR) (x : TokR) : wrAll (l ++ [x]) = (match wrAll l with
    | none => none
    | some ws => match wtn x with
      | none => none
      | some a => some (ws ++ [a])) := by
  induction l with
  | nil => simp only [List.nil_append, wrAll]
  | cons y l ih =>
    simp only [List.cons_append, wrAll, ih]
    cases wtn y with
    | none => rfl
    | some b =>
      cases wrAll l with
      | none => rfl
      | some ws => cases wtn x <;> rfl

/-- Once one can't be written, all can't. -/
theorem wrAll_none {l : List TokR} {x : TokR} (hm : x ∈ l) (h : wtn x = none) : wrAll l = none := by
  induction l with
  | nil => cases hm
  | cons y l ih =>
    simp only [wrAll]
    rcases List.mem_cons.1 hm with rfl | hm
    · rw [h]
    · rw [ih hm]
      cases wtn y <;> rfl

/-- How long they are, with one more for each. -/
def longOf (ws : List (List UInt8)) : Nat := (ws.map fun a => a.length + 1).sum

theorem longOf_snoc (ws : List (List UInt8)) (a : List UInt8) : longOf (ws ++ [a]) = longOf ws + (a.length + 1) := by simp [longOf]

theorem joinW_length : ∀ ws : List (List UInt8), ws ≠ [] → (joinW ws).length + 1 = longOf ws
  | [], h => absurd rfl h
  | [a], _ => by simp [joinW, longOf]
  | a :: b :: r, _ => by
    have := joinW_length (b :: r) (by simp)
    simp only [joinW, List.length_append, List.length_cons]
    simp only [longOf, List.map_cons, List.sum_cons] at *
    omega

theorem wrAll_long {l : List TokR} {ws : List (List UInt8)} (h : wrAll l = some ws) : ws.length = l.length ∧ longOf ws ≤ 301 * l.length := by
  induction l generalizing ws with
  | nil => cases h; exact ⟨rfl, by simp [longOf]⟩
  | cons y l ih =>
    simp only [wrAll] at h
    cases hy : wtn y with
    | none => rw [hy] at h; cases h
    | some a =>
      rw [hy] at h
      cases hl : wrAll l with
      | none => rw [hl] at h; cases h
      | some b =>
        rw [hl] at h
        cases h
        obtain ⟨h1, h2⟩ := ih hl
        have := wtn_len hy
        refine ⟨by simp [h1], ?_⟩
        simp only [longOf, List.map_cons, List.sum_cons, List.length_cons] at *
        omega

/-- The join of Go's library is this one. -/
theorem join_same : ∀ ws : List (List UInt8), Lib.join ws [32] = joinW ws
  | [] => rfl
  | [a] => by simp [Lib.join, joinW]
  | a :: b :: r => by
    have := join_same (b :: r)
    simpa [Lib.join, joinW] using this

end Go.Proofs.YtfoeadiejcheiaaDoor
