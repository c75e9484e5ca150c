/- What Tokens goes through, plainly; a return of a value and a struct. Conditions: those of each theorem. -/
import Derived.Test.YtfoeadiejcheiaaDoorTokT
namespace Go.Proofs.YtfoeadiejcheiaaDoor
open Go.RowKit

abbrev Toks := Except (Nat × Int) (List (Tok × Nat))

def pre (xs : List (Tok × Nat)) : Toks → Toks
  | .ok ys => .ok (xs ++ ys)
  | .error e => .error e

theorem pre_pre (xs ys : List (Tok × Nat)) (r : Toks) : pre xs (pre ys r) = pre (xs ++ ys) r := by cases r <;> simp [pre]

/-- All tokens of a text. -/
def toksOf (s : ByteArray) : Toks := lexAll (s.size + 1) s.data.toList 0 0

/-- The tokens ahead of a place are these. -/
def LexAt (s : ByteArray) (p : Nat) (xs : List (Tok × Nat)) : Prop :=
  p ≤ s.size ∧ ∃ fuel, s.size - p < fuel ∧ toksOf s = pre xs (lexAll fuel (s.data.toList.drop p) p xs.length)

theorem LexAt.start (s : ByteArray) : LexAt s 0 [] := by
  refine ⟨Nat.zero_le _, s.size + 1, by omega, ?_⟩
  unfold toksOf
  cases h : lexAll (s.size + 1) s.data.toList 0 0 <;> simp [pre, h]

/-- The place behind the blanks. -/
def past (s : ByteArray) (p : Nat) : Nat := p + spanN isBlank (s.data.toList.drop p)

theorem past_le {s : ByteArray} {p : Nat} (h : p ≤ s.size) : p ≤ past s p ∧ past s p ≤ s.size := by
  have h1 := spanN_le isBlank (s.data.toList.drop p)
  have h2 : (s.data.toList.drop p).length = s.size - p := by rw [List.length_drop]; rfl
  unfold past
  omega

theorem LexAt.stop {s : ByteArray} {p : Nat} {xs : List (Tok × Nat)} (h : LexAt s p xs) (hp : ¬ past s p < s.size) : toksOf s = .ok xs := by
  obtain ⟨hps, fuel, hf, he⟩ := h
  obtain ⟨fuel, rfl⟩ : ∃ m, fuel = m + 1 := ⟨fuel - 1, by omega⟩
  have hnil : (s.data.toList.drop p).drop (spanN isBlank (s.data.toList.drop p)) = [] := by
    rw [List.drop_drop]
    exact List.drop_eq_nil_of_le (by unfold past at hp; have : s.data.toList.length = s.size := rfl; omega)
  rw [he, lexAll, if_pos hnil]
  simp [pre]

theorem LexAt.fail {s : ByteArray} {p : Nat} {xs : List (Tok × Nat)} (h : LexAt s p xs) (hp : past s p < s.size) (hn : lexOne (s.data.toList.drop (past s p)) = none) : toksOf s = .error (past s p, 100) := by
  obtain ⟨hps, fuel, hf, he⟩ := h
  obtain ⟨fuel, rfl⟩ : ∃ m, fuel = m + 1 := ⟨fuel - 1, by omega⟩
  have hd : (s.data.toList.drop p).drop (spanN isBlank (s.data.toList.drop p)) = s.data.toList.drop (past s p) := by rw [List.drop_drop]; rfl
  have hne : s.data.toList.drop (past s p) ≠ [] := by
    intro h
    have := congrArg List.length h
    rw [List.length_drop] at this
    have h3 : s.data.toList.length = s.size := rfl
    simp at this
    omega
  rw [he, lexAll, hd, if_neg hne, hn]
  rfl

theorem LexAt.full {s : ByteArray} {p : Nat} {xs : List (Tok × Nat)} {t : Tok} {k : Nat} (h : LexAt s p xs) (_hp : past s p < s.size) (hn : lexOne (s.data.toList.drop (past s p)) = some (t, k)) (h4 : xs.length = 4096) : toksOf s = .error (past s p, 2) := by
  obtain ⟨hps, fuel, hf, he⟩ := h
  obtain ⟨fuel, rfl⟩ : ∃ m, fuel = m + 1 := ⟨fuel - 1, by omega⟩
  have hd : (s.data.toList.drop p).drop (spanN isBlank (s.data.toList.drop p)) = s.data.toList.drop (past s p) := by rw [List.drop_drop]; rfl
  have hne : s.data.toList.drop (past s p) ≠ [] := by
    intro h
    rw [h] at hn
    cases hn
  rw [he, lexAll, hd, if_neg hne, hn]
  simp only [h4, if_true]
  rfl

theorem LexAt.next {s : ByteArray} {p : Nat} {xs : List (Tok × Nat)} {t : Tok} {k : Nat} (h : LexAt s p xs) (hp : past s p < s.size) (hn : lexOne (s.data.toList.drop (past s p)) = some (t, k)) (h4 : xs.length ≠ 4096) :
    LexAt s (past s p + k) (xs ++ [(t, past s p)]) ∧ 1 ≤ k := by
  obtain ⟨hps, fuel, hf, he⟩ := h
  obtain ⟨fuel, rfl⟩ : ∃ m, fuel = m + 1 := ⟨fuel - 1, by omega⟩
  have hk := lexOne_len hn
  have h3 : s.data.toList.length = s.size := rfl
  rw [List.length_drop, h3] at hk
  have hpp := past_le hps
  refine ⟨⟨by omega, fuel, by omega, ?_⟩, hk.1⟩
  have hd : (s.data.toList.drop p).drop (spanN isBlank (s.data.toList.drop p)) = s.data.toList.drop (past s p) := by rw [List.drop_drop]; rfl
  have hne : s.data.toList.drop (past s p) ≠ [] := by
    intro h
    rw [h] at hn
    cases hn
  have e0 : p + spanN isBlank (s.data.toList.drop p) = past s p := rfl
  rw [he, lexAll, hd, if_neg hne, hn]
  simp only [h4, if_false, e0, List.drop_drop, List.length_append, List.length_singleton]
  cases lexAll fuel (s.data.toList.drop (past s p + k)) (past s p + k) (xs.length + 1) <;> simp [pre]

/-- The cells of tokens. -/
def tokCells (xs : List (Tok × Nat)) : List Value := xs.flatMap fun p => [.int .i64 p.1.kind, .string ⟨p.1.s.toArray⟩, .int .i64 p.1.n, .int .i64 p.2]

theorem tokCells_snoc (xs : List (Tok × Nat)) (t : Tok) (a : Nat) : tokCells (xs ++ [(t, a)]) = tokCells xs ++ [.int .i64 t.kind, .string ⟨t.s.toArray⟩, .int .i64 t.n, .int .i64 a] := by simp [tokCells]

/-- A return of a value and a struct that lies in a block. -/
theorem ret_val_row {P : Program} {fn : Func} {R : Ending → World → Prop} {a : Act} {w : World} {p u : Tmp} {ty : TypeId} (h : fn.results = #[.tmp u, .cell p ty]) (g : Nat) (t : TypeId) (cs : Array Value) (fr : Nat × Nat) (d : TypeDesc)
    (hp : a.tmps.getD p undef = .pointer (some ⟨g, 0, none⟩)) (hg : w.heap[g]? = some (.cells cs t fr))
    (hu : P.underlying ty = some d) (hd : (match d with | .struct _ | .array _ _ => true | _ => false) = true) (hi : (P.info? ty).map (·.size) = some cs.size) (hdf : a.defers = [])
    (hR : R (.returned (.tuple #[a.tmps.getD u undef, .agg cs])) w) : bodyPost P fn R .ret a w := by
  refine bodyPost_ret (v := .tuple #[a.tmps.getD u undef, .agg cs]) ?_ hdf hR
  have hp' : a.tmps[p]?.getD undef = .pointer (some ⟨g, 0, none⟩) := by simpa using hp
  simp [results, h, hp', asAddr, run_loadVar_row w g t ty cs fr d hg hu hd hi]

theorem blk_two {w : World} {B : Nat} {a b : Value} {t : TypeId} (h : w.heap[B]? = some (.cells #[a, b] t)) :
    w.cell? ⟨B, 0, none⟩ = some a ∧ w.cell? ⟨B, 1, none⟩ = some b ∧ w.frozen? ⟨B, 0, none⟩ = false ∧ w.frozen? ⟨B, 1, none⟩ = false := by
  simp [World.cell?, World.frozen?, h]
theorem set2_block {w : World} {B : Nat} {a b : Value} {t : TypeId} (h : w.heap[B]? = some (.cells #[a, b] t)) (p q : Value) :
    ((w.setCell ⟨B, 0, none⟩ p).setCell ⟨B, 1, none⟩ q).heap[B]? = some (.cells #[p, q] t (0, 0)) := by
  rw [heap_set_self (heap_set_self h)]
  rfl
theorem Keeps.set2 {S : List Nat} {a w : World} (h : Keeps S a w) {B : Nat} (hB : a.heap.size ≤ B) (p q : Value) :
    Keeps S a ((w.setCell ⟨B, 0, none⟩ p).setCell ⟨B, 1, none⟩ q) := (h.setCell (.inr hB) _).setCell (.inr hB) _

/-- What Tokens answers. -/
def TokensOut (w : World) (s : ByteArray) (e : Ending) (w' : World) : Prop :=
  match (if 262144 < s.size then .error (0, 2) else toksOf s) with
  | .ok xs => ∃ ao cp, e = .returned (.tuple #[.slice ao (xs.length + 1) cp, .agg #[.int .i64 0, .int .i64 0]]) ∧ w'.ownsRow (w.heap.size + 1) 34 4 (.slice ao (xs.length + 1) cp) (xs.length + 1) (tokCells xs ++ [.int .i64 0, .string ⟨#[]⟩, .int .i64 0, .int .i64 s.size])
  | .error (p, c) => e = .returned (.tuple #[.slice none 0 0, .agg #[.int .i64 (p : Nat), .int .i64 c]])

theorem TokensOut.long {w w' : World} {s : ByteArray} {e : Ending} (h : 262144 < s.size) (he : e = .returned (.tuple #[.slice none 0 0, .agg #[.int .i64 0, .int .i64 2]])) : TokensOut w s e w' := by
  unfold TokensOut
  rw [if_pos h]
  exact he
theorem TokensOut.bad {w w' : World} {s : ByteArray} {e : Ending} {p : Nat} {c : Int} (h : ¬ 262144 < s.size) (hT : toksOf s = .error (p, c)) (he : e = .returned (.tuple #[.slice none 0 0, .agg #[.int .i64 (p : Nat), .int .i64 c]])) : TokensOut w s e w' := by
  unfold TokensOut
  rw [if_neg h, hT]
  exact he
theorem TokensOut.good {w w' : World} {s : ByteArray} {e : Ending} {xs : List (Tok × Nat)} (h : ¬ 262144 < s.size) (hT : toksOf s = .ok xs) {ao : Option Addr} {cp : Nat} (he : e = .returned (.tuple #[.slice ao (xs.length + 1) cp, .agg #[.int .i64 0, .int .i64 0]]))
    (ho : w'.ownsRow (w.heap.size + 1) 34 4 (.slice ao (xs.length + 1) cp) (xs.length + 1) (tokCells xs ++ [.int .i64 0, .string ⟨#[]⟩, .int .i64 0, .int .i64 s.size])) : TokensOut w s e w' := by
  unfold TokensOut
  rw [if_neg h, hT]
  exact ⟨ao, cp, he, ho⟩

end Go.Proofs.YtfoeadiejcheiaaDoor
