/- What Tokens answers, parted in two; two slices of tokens held against each other without places. Conditions: those of each theorem. -/
import Derived.Test.YtfoeadiejcheiaaDoorBackA
namespace Go.Proofs.YtfoeadiejcheiaaDoor
open Go.RowKit

theorem core_at {l l' : List TokR} (h : l.map coreR = l'.map coreR) {k : Nat} {x x' : TokR} (hx : l[k]? = some x) (hx' : l'[k]? = some x') : x.kind = x'.kind ∧ x.s = x'.s ∧ x.n = x'.n := by
  have h1 := congrArg (·[k]?) h
  simp only [List.getElem?_map, hx, hx', Option.map_some, Option.some.injEq, coreR, Prod.mk.injEq] at h1
  refine ⟨h1.1, ?_, h1.2.2⟩
  apply ByteArray.ext
  exact Array.toList_inj.1 h1.2.1

theorem core_toksR {xs ys : List (Tok × Nat)} (h : xs.map (·.1) = ys.map (·.1)) (a b : Nat) : (toksR xs a).map coreR = (toksR ys b).map coreR := by
  unfold toksR
  rw [List.map_append, List.map_append, List.map_map, List.map_map]
  have e : (coreR ∘ tokR) = coreT ∘ (·.1) := funext core_tokR
  rw [e, ← List.map_map, ← List.map_map, h]
  rfl

theorem lexAll_code : ∀ (fuel : Nat) (l : List UInt8) (at_ n : Nat) {p : Nat} {c : Int}, lexAll fuel l at_ n = .error (p, c) → c = 100 ∨ c = 2
  | 0, l, at_, n, p, c, h => by cases h
  | fuel + 1, l, at_, n, p, c, h => by
    simp only [lexAll] at h
    split at h
    · cases h
    · split at h
      · cases h; exact .inl rfl
      · split at h
        · cases h; exact .inr rfl
        · split at h
          · cases h
          · rename_i e he
            cases h
            exact lexAll_code fuel _ _ _ he

/-- What Tokens answers of no text of tokens. -/
def TokBad (s : ByteArray) : Prop := 262144 < s.size ∨ ∃ p c, toksOf s = .error (p, c)

theorem tok_split (s : ByteArray) : TokBad s ∨ (¬ 262144 < s.size ∧ ∃ xs, toksOf s = .ok xs) := by
  by_cases h : 262144 < s.size
  · exact .inl (.inl h)
  · cases ht : toksOf s with
    | error x => exact .inl (.inr ⟨x.1, x.2, ht⟩)
    | ok xs => exact .inr ⟨h, xs, rfl⟩

theorem tokens_fault {s : ByteArray} (hT : TokBad s) (w : World) (hG : Glob w) :
    Calls Tryd.prog 11 #[.string s] w fun e w' => (∃ p c : Int, e = .returned (.tuple #[.slice none 0 0, .agg #[.int .i64 p, .int .i64 c]]) ∧ ((c == 0) = false)) ∧ Keeps [] w w' :=
  (tokens_any s w hG).mono fun e w' ⟨h, hk⟩ => ⟨by
    unfold TokensOut at h
    by_cases hs : 262144 < s.size
    · rw [if_pos hs] at h
      exact ⟨_, _, h, rfl⟩
    · rw [if_neg hs] at h
      obtain ⟨p, c, ht⟩ := hT.resolve_left hs
      rw [ht] at h
      refine ⟨_, _, h, ?_⟩
      rcases lexAll_code _ _ _ _ ht with rfl | rfl <;> rfl, hk⟩

/-- A slice of tokens that is new, and may be written. -/
structure NewTok (w w' : World) (g : Nat) (l : List TokR) (n cp : Nat) : Prop where
  new : w.heap.size ≤ g
  lt : g < w'.heap.size
  is : TokSl w' g 0 l
  free : ∀ o, w'.frozen? ⟨g, o, none⟩ = false
  cap : n ≤ cp
  room : cp ≤ 9223372036854775807
  len : l.length = n

theorem tokens_new {s : ByteArray} {xs : List (Tok × Nat)} {n : Nat} (hs : ¬ 262144 < s.size) (hT : toksOf s = .ok xs) (hn : xs.length = n) (w : World) (hG : Glob w) :
    Calls Tryd.prog 11 #[.string s] w fun e w' => (∃ g cp, e = .returned (.tuple #[.slice (some ⟨g, 0, none⟩) (n + 1) cp, .agg #[.int .i64 0, .int .i64 0]]) ∧ NewTok w w' g (toksR xs s.size) (n + 1) cp) ∧ Keeps [] w w' := by
  subst hn
  refine (tokens_good hs hT w hG).mono fun e w' ⟨⟨g, cp, h1, h2, h3, h4, h5, h6⟩, hk⟩ => ⟨⟨g, cp, h1, ?_⟩, hk⟩
  rcases h4.2 with ⟨he, _⟩ | ⟨g', cap, cur, he, hb, hg, _⟩
  · cases he
  · cases he
    exact ⟨by omega, heap_lt hg, h3, fun o => by simp [World.frozen?, hg], h5, h6, toksR_length xs _⟩

theorem join_bad {l : List TokR} {v : Value} {c : Int} (h : joinM l = .error c) (w : World) (hG : Glob w) (hok : ∀ x ∈ l, x.ok) (hA : ArgTok w v l) :
    Calls Tryd.prog 7 #[v] w fun e w' => e = .returned (.tuple #[.string ⟨#[]⟩, .int .i64 c]) ∧ Keeps [] w w' :=
  (join_arg w hG hok hA).mono fun e w' ⟨h1, h2⟩ => ⟨by rw [h] at h1; exact h1, h2⟩

theorem join_fine {l : List TokR} {v : Value} {b : List UInt8} (h : joinM l = .ok b) (w : World) (hG : Glob w) (hok : ∀ x ∈ l, x.ok) (hA : ArgTok w v l) :
    Calls Tryd.prog 7 #[v] w fun e w' => e = .returned (.tuple #[.string ⟨b.toArray⟩, .int .i64 0]) ∧ Keeps [] w w' :=
  (join_arg w hG hok hA).mono fun e w' ⟨h1, h2⟩ => ⟨by rw [h] at h1; exact h1, h2⟩

theorem joinM_code {l : List TokR} {c : Int} (h : joinM l = .error c) : (c != 0) = true := by
  rcases joinM_bad h with rfl | rfl <;> rfl

theorem NewTok.arg {w w' : World} {g n cp : Nat} {l : List TokR} (h : NewTok w w' g l n cp) : ArgTok w' (.slice (some ⟨g, 0, none⟩) n cp) l :=
  ⟨some ⟨g, 0, none⟩, cp, by rw [h.len], (fun e => nomatch e), fun _ => ⟨g, 0, rfl, h.is, by rw [h.len]; exact h.cap, h.room⟩⟩

theorem core_pre {l l' : List TokR} (h : (l'.take l.length).map coreR = l.map coreR) : ∀ k, k < l.length → ∃ x x', l'[k]? = some x ∧ l[k]? = some x' ∧ x.kind = x'.kind ∧ x.s = x'.s ∧ x.n = x'.n := by
  intro k hk
  have hlen := congrArg List.length h
  simp only [List.length_map, List.length_take] at hlen
  have h1 : k < l'.length := by omega
  have e1 : l'[k]? = some l'[k] := List.getElem?_eq_getElem h1
  have e2 : l[k]? = some l[k] := List.getElem?_eq_getElem hk
  have e3 : (l'.take l.length)[k]? = some l'[k] := by rw [List.getElem?_take, if_pos hk, e1]
  exact ⟨_, _, e1, e2, core_at h e3 e2⟩

/-- Behind a join: what is parted is what was joined. -/
theorem back_core {l l0 : List TokR} {ts : List (List UInt8 × Tok)} {ys : List (Tok × Nat)} (hco : ts.map (fun p => coreT p.2) = l0.map coreR) (hy : ys.map (·.1) = ts.map (·.2)) (sz : Nat)
    (hor : (l0 = l ∧ ∀ x, l.getLast? = some x → x.kind ≠ 0) ∨ ∃ x, l = l0 ++ [x] ∧ coreR x = (0, [], 0)) : ((toksR ys sz).take l.length).map coreR = l.map coreR := by
  have h1 : (ys.map tokR).map coreR = l0.map coreR := by
    rw [List.map_map]
    have e : (coreR ∘ tokR) = coreT ∘ (·.1) := funext core_tokR
    rw [e, ← List.map_map, hy, List.map_map, ← hco]
    rfl
  have hlen := congrArg List.length h1
  simp only [List.length_map] at hlen
  rcases hor with ⟨rfl, _⟩ | ⟨x, rfl, hx⟩
  · unfold toksR
    rw [List.take_append_of_le_length (by simp; omega), List.take_of_length_le (by simp; omega)]
    exact h1
  · rw [List.take_of_length_le (by rw [toksR_length]; simp; omega)]
    unfold toksR
    rw [List.map_append, List.map_append, h1, List.map_singleton, List.map_singleton, hx]
    rfl

end Go.Proofs.YtfoeadiejcheiaaDoor
