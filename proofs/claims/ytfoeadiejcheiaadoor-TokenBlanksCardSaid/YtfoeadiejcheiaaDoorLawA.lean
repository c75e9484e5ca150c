/- Owned rows of tokens; what `works` computes. Conditions: those of each theorem. -/
import Derived.Test.YtfoeadiejcheiaaDoorRefE
import Derived.Test.YtfoeadiejcheiaaDoorTokV
import Derived.Test.YtfoeadiejcheiaaDoorRefA
namespace Go.Proofs.YtfoeadiejcheiaaDoor
open Go.RowKit

def rowOf (l : List TokR) : List Value := l.flatMap fun x => [.int .i64 x.kind, .string x.s, .int .i64 x.n, .int .i64 x.at_]

theorem rowOf_cons (x : TokR) (l : List TokR) : rowOf (x :: l) = .int .i64 x.kind :: .string x.s :: .int .i64 x.n :: .int .i64 x.at_ :: rowOf l := rfl

theorem rowOf_length (l : List TokR) : (rowOf l).length = l.length * 4 := by
  induction l with
  | nil => rfl
  | cons x l ih => rw [rowOf_cons]; simp only [List.length_cons, ih]; omega

theorem rowOf_at : ∀ (l : List TokR) (j : Nat) (x : TokR), l[j]? = some x → (rowOf l)[j * 4]? = some (.int .i64 x.kind) ∧ (rowOf l)[j * 4 + 1]? = some (.string x.s) ∧ (rowOf l)[j * 4 + 2]? = some (.int .i64 x.n) ∧ (rowOf l)[j * 4 + 3]? = some (.int .i64 x.at_)
  | [], j, x, h => by cases h
  | y :: l, 0, x, h => by
    cases h
    exact ⟨rfl, rfl, rfl, rfl⟩
  | y :: l, j + 1, x, h => by
    have h2 := rowOf_at l j x h
    have e : (j + 1) * 4 = j * 4 + 4 := by omega
    rw [e, rowOf_cons]
    exact h2

def tokR (p : Tok × Nat) : TokR := ⟨p.1.kind, ⟨p.1.s.toArray⟩, p.1.n, p.2⟩
/-- What Tokens answers: the tokens, and an end. -/
def toksR (xs : List (Tok × Nat)) (sz : Nat) : List TokR := xs.map tokR ++ [⟨0, ⟨#[]⟩, 0, sz⟩]

theorem tokCells_row (xs : List (Tok × Nat)) (sz : Nat) : tokCells xs ++ [.int .i64 0, .string ⟨#[]⟩, .int .i64 0, .int .i64 sz] = rowOf (toksR xs sz) := by
  unfold tokCells rowOf toksR
  rw [List.flatMap_append, List.flatMap_map]
  rfl

theorem toksR_length (xs : List (Tok × Nat)) (sz : Nat) : (toksR xs sz).length = xs.length + 1 := by simp [toksR]

/-- A row that is owned reads as its tokens. -/
theorem own_toks {w : World} {base cp n : Nat} {ao : Option Addr} {l : List TokR} (h : w.ownsRow base 34 4 (.slice ao n cp) n (rowOf l)) (hn : l.length = n) (hne : l ≠ []) :
    ∃ g, ao = some ⟨g, 0, none⟩ ∧ base ≤ g ∧ TokSl w g 0 l ∧ n ≤ cp ∧ cp ≤ 9223372036854775807 := by
  rcases h.2 with ⟨he, h0⟩ | ⟨g, cap, cur, he, hb, hg, hnc, hm, hs, ht⟩
  · exact absurd (List.eq_nil_of_length_eq_zero (hn.trans h0)) hne
  · cases he
    refine ⟨g, rfl, hb, fun j x hx => ?_, hnc, by unfold maxLen at hm; omega⟩
    have h2 := rowOf_at l j x hx
    have hc := h.cells rfl
    simp only [addr_add] at hc
    exact ⟨hc _ _ h2.1, hc _ _ h2.2.1, hc _ _ h2.2.2.1, hc _ _ h2.2.2.2⟩

theorem join_own (l : List TokR) (ao : Option Addr) (cp n base : Nat) (w : World) (hG : Glob w) (hok : ∀ x ∈ l, x.ok) (hn : l.length = n) (h : w.ownsRow base 34 4 (.slice ao n cp) n (rowOf l)) :
    Calls Tryd.prog 7 #[.slice ao n cp] w fun e w' => JoinOut (joinM l) e ∧ Keeps [] w w' := by
  by_cases hne : l = []
  · subst hne
    subst hn
    exact join_none ao cp w
  · obtain ⟨g, rfl, hb, hT, h1, h2⟩ := own_toks h hn hne
    subst hn
    exact join_some l g 0 cp w hG hok hT h1 h2 hne

def str1 : ByteArray := ⟨#[97, 49, 60, 61, 45, 48, 55]⟩
def str2 : ByteArray := ⟨#[110, 48, 32, 61, 61, 32, 39, 120, 32, 121, 39]⟩
def toks2 : List (Tok × Nat) := [(⟨1, [110, 48], 0⟩, 0), (⟨4, [61, 61], 0⟩, 3), (⟨3, [120, 32, 121], 0⟩, 6)]

theorem toks_str1 : toksOf str1 = .error (5, 100) := by kernel_rfl
theorem toks_str2 : toksOf str2 = .ok toks2 := by kernel_rfl
theorem join_str2 : joinM (toksR toks2 11) = .ok [110, 48, 32, 61, 61, 32, 39, 120, 32, 121, 39] := by kernel_rfl

end Go.Proofs.YtfoeadiejcheiaaDoor
