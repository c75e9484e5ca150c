/- T5: contracts and plain laws of tokens, carried over from another seat. Conditions: those of each theorem. -/
import Derived.Test.YtefcmijobbgpbaaGreatDoorT4
import Derived.Test.YtefcmijobbgpbaaGreatDoorT2

set_option maxRecDepth 100000

namespace Go.Proofs.YtefcmijobbgpbaaGreatDoor
open Go.RowKit

def rowOf (l : List TokR) : List Value := l.flatMap fun x => [.int .i64 x.kind, .string x.s, .int .i64 x.n, .int .i64 x.at_]

theorem rowOf_cons (x : TokR) (l : List TokR) : rowOf (x :: l) = .int .i64 x.kind :: .string x.s :: .int .i64 x.n :: .int .i64 x.at_ :: rowOf l := rfl

theorem rowOf_length (l : List TokR) : (rowOf l).length = l.length * 4 := by
  induction l with
  | nil => rfl
  | cons x l ih => rw [rowOf_cons]; simp only [List.length_cons, ih]; omega

theorem rowOf_at : ∀ (l : List TokR) (j : Nat) (x : TokR), l[j]? = some x → (rowOf l)[j * 4]? = some (.int .i64 x.kind) ∧ (rowOf l)[j * 4 + 1]? = some (.string x.s) ∧ (rowOf l)[j * 4 + 2]? = some (.int .i64 x.n) ∧ (rowOf l)[j * 4 + 3]? = some (.int .i64 x.at_)
  | [], j, x, h => by cases h
  | y :: l, 0, x, h => by
    cases h
    exact ⟨rfl, rfl, rfl, rfl⟩
  | y :: l, j + 1, x, h => by
    have h2 := rowOf_at l j x h
    have e : (j + 1) * 4 = j * 4 + 4 := by omega
    rw [e, rowOf_cons]
    exact h2

def tokR (p : Tok × Nat) : TokR := ⟨p.1.kind, ⟨p.1.s.toArray⟩, p.1.n, p.2⟩
/-- What Tokens answers: the tokens, and an end. -/
def toksR (xs : List (Tok × Nat)) (sz : Nat) : List TokR := xs.map tokR ++ [⟨0, ⟨#[]⟩, 0, sz⟩]

theorem tokCells_row (xs : List (Tok × Nat)) (sz : Nat) : tokCells xs ++ [.int .i64 0, .string ⟨#[]⟩, .int .i64 0, .int .i64 sz] = rowOf (toksR xs sz) := by
  unfold tokCells rowOf toksR
  rw [List.flatMap_append, List.flatMap_map]
  rfl

theorem toksR_length (xs : List (Tok × Nat)) (sz : Nat) : (toksR xs sz).length = xs.length + 1 := by simp [toksR]

/-- A row that is owned reads as its tokens. -/
theorem own_toks {w : World} {base cp n : Nat} {ao : Option Addr} {l : List TokR} (h : w.ownsRow base 91 4 (.slice ao n cp) n (rowOf l)) (hn : l.length = n) (hne : l ≠ []) :
    ∃ g, ao = some ⟨g, 0, none⟩ ∧ base ≤ g ∧ TokSl w g 0 l ∧ n ≤ cp ∧ cp ≤ 9223372036854775807 := by
  rcases h.2 with ⟨he, h0⟩ | ⟨g, cap, cur, he, hb, hg, hnc, hm, hs, ht⟩
  · exact absurd (List.eq_nil_of_length_eq_zero (hn.trans h0)) hne
  · cases he
    refine ⟨g, rfl, hb, fun j x hx => ?_, hnc, by unfold maxLen at hm; omega⟩
    have h2 := rowOf_at l j x hx
    have hc := h.cells rfl
    simp only [addr_add] at hc
    exact ⟨hc _ _ h2.1, hc _ _ h2.2.1, hc _ _ h2.2.2.1, hc _ _ h2.2.2.2⟩

theorem join_own (l : List TokR) (ao : Option Addr) (cp n base : Nat) (w : World) (hG : Glob w) (hok : ∀ x ∈ l, x.ok) (hn : l.length = n) (h : w.ownsRow base 91 4 (.slice ao n cp) n (rowOf l)) :
    Calls Tryz.prog 27 #[.slice ao n cp] w fun e w' => JoinOut (joinM l) e ∧ Keeps [] w w' := by
  by_cases hne : l = []
  · subst hne
    subst hn
    exact join_none ao cp w
  · obtain ⟨g, rfl, hb, hT, h1, h2⟩ := own_toks h hn hne
    subst hn
    exact join_some l g 0 cp w hG hok hT h1 h2 hne

def str1 : ByteArray := ⟨#[97, 49, 60, 61, 45, 48, 55]⟩
def str2 : ByteArray := ⟨#[110, 48, 32, 61, 61, 32, 39, 120, 32, 121, 39]⟩
def toks2 : List (Tok × Nat) := [(⟨1, [110, 48], 0⟩, 0), (⟨4, [61, 61], 0⟩, 3), (⟨3, [120, 32, 121], 0⟩, 6)]

theorem toks_str1 : toksOf str1 = .error (5, 100) := by kernel_rfl
theorem toks_str2 : toksOf str2 = .ok toks2 := by kernel_rfl
theorem join_str2 : joinM (toksR toks2 11) = .ok [110, 48, 32, 61, 61, 32, 39, 120, 32, 121, 39] := by kernel_rfl

end Go.Proofs.YtefcmijobbgpbaaGreatDoor

namespace Go.Proofs.YtefcmijobbgpbaaGreatDoor
open Go.RowKit

theorem tokens_bad {s : ByteArray} {p : Nat} {c : Int} (hs : ¬ 262144 < s.size) (hT : toksOf s = .error (p, c)) (w : World) (hG : Glob w) :
    Calls Tryz.prog 38 #[.string s] w fun e w' => e = .returned (.tuple #[.slice none 0 0, .agg #[.int .i64 (p : Nat), .int .i64 c]]) ∧ Keeps [] w w' :=
  (tokens_any s w hG).mono fun e w' ⟨h, hk⟩ => ⟨by unfold TokensOut at h; rw [if_neg hs, hT] at h; exact h, hk⟩

theorem tokens_good {s : ByteArray} {xs : List (Tok × Nat)} (hs : ¬ 262144 < s.size) (hT : toksOf s = .ok xs) (w : World) (hG : Glob w) :
    Calls Tryz.prog 38 #[.string s] w fun e w' => (∃ g cp, e = .returned (.tuple #[.slice (some ⟨g, 0, none⟩) (xs.length + 1) cp, .agg #[.int .i64 0, .int .i64 0]]) ∧ w.heap.size + 1 ≤ g ∧ TokSl w' g 0 (toksR xs s.size) ∧ w'.ownsRow (w.heap.size + 1) 91 4 (.slice (some ⟨g, 0, none⟩) (xs.length + 1) cp) (xs.length + 1) (rowOf (toksR xs s.size)) ∧ xs.length + 1 ≤ cp ∧ cp ≤ 9223372036854775807) ∧ Keeps [] w w' :=
  (tokens_any s w hG).mono fun e w' ⟨h, hk⟩ => ⟨by
    unfold TokensOut at h
    rw [if_neg hs, hT] at h
    obtain ⟨ao, cp, h1, h2⟩ := h
    rw [tokCells_row] at h2
    obtain ⟨g, rfl, h3, h4, h5, h6⟩ := own_toks h2 (toksR_length _ _) (by intro h; have := toksR_length xs s.size; rw [h] at this; simp at this)
    exact ⟨g, cp, h1, h3, h4, h2, h5, h6⟩, hk⟩

end Go.Proofs.YtefcmijobbgpbaaGreatDoor

namespace Go.Proofs.YtefcmijobbgpbaaGreatDoor
open Go.RowKit

/-- A slice of tokens that is an argument. -/
def ArgTok (w : World) (v : Value) (l : List TokR) : Prop :=
  ∃ ao cap, v = .slice ao l.length cap ∧ (ao = none → cap = 0 ∧ l = []) ∧ (l ≠ [] → ∃ bk o, ao = some ⟨bk, o, none⟩ ∧ TokSl w bk o l ∧ l.length ≤ cap ∧ cap ≤ 9223372036854775807)

theorem TokSl.row {w : World} {bk o : Nat} {l : List TokR} (h : TokSl w bk o l) (j : Nat) (u : Value) (hu : (rowOf l)[j]? = some u) : w.cell? ((⟨bk, o, none⟩ : Addr).add j) = some u := by
  have hj : j < l.length * 4 := by
    rcases Nat.lt_or_ge j (l.length * 4) with h | h
    · exact h
    · rw [List.getElem?_eq_none (by rw [rowOf_length]; exact h)] at hu; cases hu
  have hq : j / 4 < l.length := by omega
  have hx : l[j / 4]? = some l[j / 4] := List.getElem?_eq_getElem hq
  have h2 := rowOf_at l (j / 4) _ hx
  have h3 := h (j / 4) _ hx
  rw [addr_add]
  have hc : j % 4 = 0 ∨ j % 4 = 1 ∨ j % 4 = 2 ∨ j % 4 = 3 := by omega
  rcases hc with hc | hc | hc | hc
  · have e : j = j / 4 * 4 := by omega
    rw [e] at hu ⊢
    rw [h2.1] at hu
    cases hu
    exact h3.1
  · have e : j = j / 4 * 4 + 1 := by omega
    rw [e] at hu ⊢
    rw [h2.2.1] at hu
    cases hu
    exact h3.2.1
  · have e : j = j / 4 * 4 + 2 := by omega
    rw [e] at hu ⊢
    rw [h2.2.2.1] at hu
    cases hu
    exact h3.2.2.1
  · have e : j = j / 4 * 4 + 3 := by omega
    rw [e] at hu ⊢
    rw [h2.2.2.2] at hu
    cases hu
    exact h3.2.2.2

theorem ArgTok.keep {w w' : World} {v : Value} {l : List TokR} (h : ArgTok w v l) (k : Keeps [] w w') : ArgTok w' v l := by
  obtain ⟨ao, cap, rfl, h1, h2⟩ := h
  refine ⟨ao, cap, rfl, h1, fun hne => ?_⟩
  obtain ⟨bk, o, rfl, h3, h4⟩ := h2 hne
  exact ⟨bk, o, rfl, h3.keep k, h4⟩

theorem ArgTok.slc {w : World} {v : Value} {l : List TokR} (h : ArgTok w v l) : SlC w v l.length 4 (rowOf l) := by
  obtain ⟨ao, cap, rfl, h1, h2⟩ := h
  refine ⟨ao, cap, rfl, rowOf_length l, fun h => ⟨by rw [(h1 h).2]; rfl, (h1 h).1⟩, fun b hb j u hu => ?_⟩
  by_cases hne : l = []
  · subst hne; cases hu
  · obtain ⟨bk, o, rfl, h3, h4⟩ := h2 hne
    cases hb
    exact h3.row j u hu

/-- What is owned serves as an argument. -/
theorem ArgTok.of_own {w : World} {base cp n : Nat} {ao : Option Addr} {l : List TokR} (h : w.ownsRow base 91 4 (.slice ao n cp) n (rowOf l)) (hn : l.length = n) : ArgTok w (.slice ao n cp) l := by
  subst hn
  refine ⟨ao, cp, rfl, fun h0 => ?_, fun hne => ?_⟩
  · rcases h.2 with ⟨he, h0'⟩ | ⟨g, cap, cur, he, _⟩
    · obtain ⟨_, _, e3⟩ := Value.slice.inj he
      exact ⟨e3, List.eq_nil_of_length_eq_zero h0'⟩
    · rw [h0] at he
      obtain ⟨e1, _, _⟩ := Value.slice.inj he
      cases e1
  · obtain ⟨g, rfl, hb, hT, h1, h2⟩ := own_toks h rfl hne
    exact ⟨g, 0, rfl, hT, h1, h2⟩

theorem join_arg {l : List TokR} {v : Value} (w : World) (hG : Glob w) (hok : ∀ x ∈ l, x.ok) (h : ArgTok w v l) :
    Calls Tryz.prog 27 #[v] w fun e w' => JoinOut (joinM l) e ∧ Keeps [] w w' := by
  obtain ⟨ao, cap, rfl, h1, h2⟩ := h
  by_cases hne : l = []
  · subst hne; exact join_none ao cap w
  · obtain ⟨bk, o, rfl, h3, h4, h5⟩ := h2 hne
    exact join_some l bk o cap w hG hok h3 h4 h5 hne

def joinS : Except Int (List UInt8) → ByteArray
  | .ok b => ⟨b.toArray⟩
  | .error _ => ⟨#[]⟩
def joinC : Except Int (List UInt8) → Int
  | .ok _ => 0
  | .error c => c
theorem JoinOut.form {r : Except Int (List UInt8)} {e : Ending} (h : JoinOut r e) : e = .returned (.tuple #[.string (joinS r), .int .i64 (joinC r)]) := by
  cases r <;> exact h

theorem rowOf_one (l : List TokR) : ∀ u ∈ rowOf l, u.oneCell' = true := by
  intro u hu
  obtain ⟨x, _, hx⟩ := List.mem_flatMap.1 hu
  simp at hx
  rcases hx with rfl | rfl | rfl | rfl <;> rfl

end Go.Proofs.YtefcmijobbgpbaaGreatDoor

namespace Go.Proofs.YtefcmijobbgpbaaGreatDoor

theorem lexOne_bounds {l : List UInt8} {t : Tok} {k : Nat} (h : lexOne l = some (t, k)) : t.n ≤ 9223372036854775807 ∧ t.s.length ≤ 300 ∧ 1 ≤ t.kind := by
  cases l with
  | nil => simp [lexOne] at h
  | cons c r =>
    simp only [lexOne] at h
    split at h
    · split at h
      · rename_i hk
        cases h
        exact ⟨by simp, by simp only [List.length_take]; omega, by simp⟩
      · cases h
    · split at h
      · split at h
        · rename_i hk
          cases h
          exact ⟨hk.1, by simp, by simp⟩
        · cases h
      · split at h
        · split at h
          · rename_i hk
            cases h
            exact ⟨by simp, by simp only [List.length_take]; omega, by simp⟩
          · cases h
        · split at h
          · split at h
            · cases h
              exact ⟨by simp, by simp, by simp⟩
            · split at h
              · cases h
              · cases h
                exact ⟨by simp, by simp, by simp⟩
          · cases h

/-- What a token is, without its place. -/
def coreT (t : Tok) : Int × List UInt8 × Int := ((t.kind : Int), t.s, (t.n : Int))
def coreR (x : TokR) : Int × List UInt8 × Int := (x.kind, x.s.data.toList, x.n)

theorem core_tokR (p : Tok × Nat) : coreR (tokR p) = coreT p.1 := by simp [coreR, tokR, coreT]

theorem wrAll_toks : ∀ {l : List TokR} {ws : List (List UInt8)}, wrAll l = some ws → ∃ ts : List (List UInt8 × Tok), ws = ts.map (·.1) ∧ (∀ p ∈ ts, lexOne p.1 = some (p.2, p.1.length)) ∧ ts.map (fun p => coreT p.2) = l.map coreR
  | [], ws, h => by
    simp only [wrAll, Option.some.injEq] at h
    subst h
    exact ⟨[], rfl, by simp, rfl⟩
  | x :: l, ws, h => by
    simp only [wrAll] at h
    split at h
    · cases h
    · rename_i a ha
      split at h
      · cases h
      · rename_i b hb
        simp only [Option.some.injEq] at h
        subst h
        obtain ⟨ts, rfl, h1, h2⟩ := wrAll_toks hb
        obtain ⟨t, h3, h4, h5, h6⟩ := written_some ha
        refine ⟨(a, t) :: ts, rfl, fun p hp => ?_, ?_⟩
        · rcases List.mem_cons.1 hp with rfl | hp
          · exact h3
          · exact h1 p hp
        · have e : coreT t = coreR x := by simp only [coreT, coreR, h4, h5, h6]
          rw [List.map_cons, List.map_cons, h2]
          exact congrArg (· :: _) e

/-- Tokens of a text, each written: all come out. -/
theorem wrAll_of : ∀ (ts : List (List UInt8 × Tok)) (l : List TokR), ts.map (fun p => coreT p.2) = l.map coreR → (∀ p ∈ ts, writtenM p.2.kind p.2.s p.2.n = some p.1) → wrAll l = some (ts.map (·.1))
  | [], [], _, _ => rfl
  | [], x :: l, h, _ => by cases h
  | p :: ts, [], h, _ => by cases h
  | p :: ts, x :: l, h, hw => by
    simp only [List.map_cons, List.cons.injEq] at h
    have ih := wrAll_of ts l h.2 (fun q hq => hw q (by simp [hq]))
    have h1 := hw p (by simp)
    have h2 := h.1
    simp only [coreT, coreR, Prod.mk.injEq] at h2
    have h3 : wtn x = some p.1 := by
      unfold wtn
      rw [← h2.1, ← h2.2.1, ← h2.2.2]
      exact h1
    simp only [wrAll, h3, ih, List.map_cons]

/-- The join of what Tokens answered. -/
theorem join_toks {s : ByteArray} {xs : List (Tok × Nat)} (h : toksOf s = .ok xs) (sz : Nat) :
    ∃ ts : List (List UInt8 × Tok), (∀ p ∈ ts, lexOne p.1 = some (p.2, p.1.length)) ∧ xs.map (·.1) = ts.map (·.2) ∧ ts.length ≤ 4096 ∧ joinM (toksR xs sz) = if 262144 < (joinW (ts.map (·.1))).length then .error 2 else .ok (joinW (ts.map (·.1))) := by
  unfold toksOf at h
  obtain ⟨ts, h1, h2, h3⟩ := lexAll_words (by simp) h
  refine ⟨ts, fun p hp => (h2 p hp).1, h1, h3, ?_⟩
  have hl : (toksR xs sz).length = xs.length + 1 := toksR_length xs sz
  have hx : (toksR xs sz)[xs.length]? = some ⟨0, ⟨#[]⟩, 0, sz⟩ := by simp [toksR]
  have hd : (toksR xs sz).dropLast = xs.map tokR := by simp [toksR]
  have hxl : xs.length = ts.length := by have := congrArg List.length h1; simpa using this
  rw [jm_end hl hx rfl, if_neg (by simp [ByteArray.size]), hd]
  refine core_all (by simp; omega) (wrAll_of ts _ ?_ (fun p hp => (h2 p hp).2))
  rw [List.map_map]
  have e : (coreR ∘ tokR) = fun p : Tok × Nat => coreT p.1 := funext core_tokR
  rw [e]
  have h4 := congrArg (List.map coreT) h1
  rw [List.map_map, List.map_map] at h4
  exact h4.symm

theorem toks_join {ts : List (List UInt8 × Tok)} (h : ∀ p ∈ ts, lexOne p.1 = some (p.2, p.1.length)) (hn : ts.length ≤ 4096) :
    ∃ ys, toksOf ⟨(joinW (ts.map (·.1))).toArray⟩ = .ok ys ∧ ys.map (·.1) = ts.map (·.2) := by
  have hlen : ∀ ts : List (List UInt8 × Tok), (∀ p ∈ ts, lexOne p.1 = some (p.2, p.1.length)) → ts.length ≤ (joinW (ts.map (·.1))).length := by
    intro ts h
    cases ts with
    | nil => simp
    | cons p ts =>
      have h1 := joinW_length ((p :: ts).map (·.1)) (by simp)
      have h2 : ∀ ws : List (List UInt8), (∀ w ∈ ws, 1 ≤ w.length) → 2 * ws.length ≤ longOf ws := by
        intro ws hw
        induction ws with
        | nil => simp [longOf]
        | cons w ws ih =>
          have i1 := ih (fun v hv => hw v (by simp [hv]))
          have i2 := hw w (by simp)
          simp only [longOf, List.map_cons, List.sum_cons, List.length_cons] at i1 ⊢
          omega
      have h3 := h2 ((p :: ts).map (·.1)) (by
        intro w hw
        obtain ⟨q, hq, rfl⟩ := List.mem_map.1 hw
        exact (lexOne_len (h q hq)).1)
      simp only [List.length_map, List.length_cons] at h3 ⊢
      omega
  unfold toksOf
  exact lexAll_join h hn (by have := hlen ts h; show ts.length < (joinW (ts.map (·.1))).toArray.size + 1; simp; omega)

theorem joinCore_ok {l : List TokR} {b : List UInt8} (h : joinCore l = .ok b) : ∃ ts : List (List UInt8 × Tok), b = joinW (ts.map (·.1)) ∧ (∀ p ∈ ts, lexOne p.1 = some (p.2, p.1.length)) ∧ ts.map (fun p => coreT p.2) = l.map coreR ∧ ts.length ≤ 4096 ∧ b.length ≤ 262144 := by
  unfold joinCore at h
  split at h
  · cases h
  · rename_i h1
    split at h
    · cases h
    · rename_i ws hws
      split at h
      · cases h
      · rename_i h2
        simp only [Except.ok.injEq] at h
        obtain ⟨ts, rfl, h3, h4⟩ := wrAll_toks hws
        have h5 := congrArg List.length h4
        simp only [List.length_map] at h5
        exact ⟨ts, h.symm, h3, h4, by omega, by rw [← h]; omega⟩

theorem joinCore_bad {l : List TokR} {c : Int} (h : joinCore l = .error c) : c = 2 ∨ c = 100 := by
  unfold joinCore at h
  split at h
  · cases h; exact .inl rfl
  · split at h
    · cases h; exact .inr rfl
    · split at h
      · cases h; exact .inl rfl
      · cases h

theorem joinM_bad {l : List TokR} {c : Int} (h : joinM l = .error c) : c = 2 ∨ c = 100 := by
  unfold joinM at h
  split at h
  · exact joinCore_bad h
  · split at h
    · split at h
      · cases h; exact .inr rfl
      · exact joinCore_bad h
    · exact joinCore_bad h

/-- What could be joined: the tokens, and it may be an end behind them. -/
theorem joinM_ok {l : List TokR} {b : List UInt8} (h : joinM l = .ok b) : ∃ (ts : List (List UInt8 × Tok)) (l0 : List TokR), b = joinW (ts.map (·.1)) ∧ (∀ p ∈ ts, lexOne p.1 = some (p.2, p.1.length)) ∧ ts.map (fun p => coreT p.2) = l0.map coreR ∧ ts.length ≤ 4096 ∧ b.length ≤ 262144 ∧
    ((l0 = l ∧ ∀ x, l.getLast? = some x → x.kind ≠ 0) ∨ ∃ x, l = l0 ++ [x] ∧ coreR x = (0, [], 0)) := by
  unfold joinM at h
  split at h
  · rename_i hl
    obtain ⟨ts, h1, h2, h3, h4, h5⟩ := joinCore_ok h
    exact ⟨ts, l, h1, h2, h3, h4, h5, .inl ⟨rfl, fun x hx => by rw [hl] at hx; cases hx⟩⟩
  · rename_i x hl
    split at h
    · rename_i hk
      split at h
      · cases h
      · rename_i hq
        obtain ⟨ts, h1, h2, h3, h4, h5⟩ := joinCore_ok h
        have hne : l ≠ [] := by intro e; rw [e] at hl; cases hl
        have hsplit : l = l.dropLast ++ [x] := by
          have e := List.dropLast_concat_getLast hne
          rw [List.getLast?_eq_some_getLast hne] at hl
          rw [Option.some.inj hl] at e
          exact e.symm
        have hlen : l.length - 1 ≤ 4096 := by
          have h6 := congrArg List.length h3
          simp only [List.length_map, List.length_dropLast] at h6
          omega
        have hs : x.s.size = 0 := by
          rcases Nat.eq_zero_or_pos x.s.size with h | h
          · exact h
          · exact absurd ⟨hlen, .inl (by omega)⟩ hq
        have hn : x.n = 0 := by
          rcases Classical.em (x.n = 0) with h | h
          · exact h
          · exact absurd ⟨hlen, .inr h⟩ hq
        have hs2 : x.s.data.toList = [] := List.eq_nil_of_length_eq_zero hs
        exact ⟨ts, l.dropLast, h1, h2, h3, h4, h5, .inr ⟨x, hsplit, by simp only [coreR, hk, hs2, hn]⟩⟩
    · rename_i hk
      obtain ⟨ts, h1, h2, h3, h4, h5⟩ := joinCore_ok h
      exact ⟨ts, l, h1, h2, h3, h4, h5, .inl ⟨rfl, fun y hy => by rw [hl] at hy; cases hy; exact hk⟩⟩

theorem toksR_ok {s : ByteArray} {xs : List (Tok × Nat)} (h : toksOf s = .ok xs) (sz : Nat) : ∀ x ∈ toksR xs sz, x.ok := by
  obtain ⟨ts, h1, h2, _⟩ := join_toks h sz
  intro x hx
  unfold toksR at hx
  rcases List.mem_append.1 hx with hx | hx
  · obtain ⟨p, hp, rfl⟩ := List.mem_map.1 hx
    have h3 : p.1 ∈ ts.map (·.2) := h2 ▸ List.mem_map.2 ⟨p, hp, rfl⟩
    obtain ⟨q, hq, hqp⟩ := List.mem_map.1 h3
    have hb := lexOne_bounds (h1 q hq)
    rw [hqp] at hb
    exact ⟨by simp only [tokR]; omega, by simp only [tokR]; omega, by show (p.1.s.toArray).size ≤ _; simp; omega⟩
  · simp at hx
    subst hx
    exact ⟨by simp, by simp, by simp [ByteArray.size]⟩

end Go.Proofs.YtefcmijobbgpbaaGreatDoor

namespace Go.Proofs.YtefcmijobbgpbaaGreatDoor
open Go.RowKit

theorem core_at {l l' : List TokR} (h : l.map coreR = l'.map coreR) {k : Nat} {x x' : TokR} (hx : l[k]? = some x) (hx' : l'[k]? = some x') : x.kind = x'.kind ∧ x.s = x'.s ∧ x.n = x'.n := by
  have h1 := congrArg (·[k]?) h
  simp only [List.getElem?_map, hx, hx', Option.map_some, Option.some.injEq, coreR, Prod.mk.injEq] at h1
  refine ⟨h1.1, ?_, h1.2.2⟩
  apply ByteArray.ext
  exact Array.toList_inj.1 h1.2.1

theorem core_toksR {xs ys : List (Tok × Nat)} (h : xs.map (·.1) = ys.map (·.1)) (a b : Nat) : (toksR xs a).map coreR = (toksR ys b).map coreR := by
  unfold toksR
  rw [List.map_append, List.map_append, List.map_map, List.map_map]
  have e : (coreR ∘ tokR) = coreT ∘ (·.1) := funext core_tokR
  rw [e, ← List.map_map, ← List.map_map, h]
  rfl

theorem lexAll_code : ∀ (fuel : Nat) (l : List UInt8) (at_ n : Nat) {p : Nat} {c : Int}, lexAll fuel l at_ n = .error (p, c) → c = 100 ∨ c = 2
  | 0, l, at_, n, p, c, h => by cases h
  | fuel + 1, l, at_, n, p, c, h => by
    simp only [lexAll] at h
    split at h
    · cases h
    · split at h
      · cases h; exact .inl rfl
      · split at h
        · cases h; exact .inr rfl
        · split at h
          · cases h
          · rename_i e he
            cases h
            exact lexAll_code fuel _ _ _ he

/-- What Tokens answers of no text of tokens. -/
def TokBad (s : ByteArray) : Prop := 262144 < s.size ∨ ∃ p c, toksOf s = .error (p, c)

theorem tok_split (s : ByteArray) : TokBad s ∨ (¬ 262144 < s.size ∧ ∃ xs, toksOf s = .ok xs) := by
  by_cases h : 262144 < s.size
  · exact .inl (.inl h)
  · cases ht : toksOf s with
    | error x => exact .inl (.inr ⟨x.1, x.2, ht⟩)
    | ok xs => exact .inr ⟨h, xs, rfl⟩

theorem tokens_fault {s : ByteArray} (hT : TokBad s) (w : World) (hG : Glob w) :
    Calls Tryz.prog 38 #[.string s] w fun e w' => (∃ p c : Int, e = .returned (.tuple #[.slice none 0 0, .agg #[.int .i64 p, .int .i64 c]]) ∧ ((c == 0) = false)) ∧ Keeps [] w w' :=
  (tokens_any s w hG).mono fun e w' ⟨h, hk⟩ => ⟨by
    unfold TokensOut at h
    by_cases hs : 262144 < s.size
    · rw [if_pos hs] at h
      exact ⟨_, _, h, rfl⟩
    · rw [if_neg hs] at h
      obtain ⟨p, c, ht⟩ := hT.resolve_left hs
      rw [ht] at h
      refine ⟨_, _, h, ?_⟩
      rcases lexAll_code _ _ _ _ ht with rfl | rfl <;> rfl, hk⟩

/-- A slice of tokens that is new, and may be written. -/
structure NewTok (w w' : World) (g : Nat) (l : List TokR) (n cp : Nat) : Prop where
  new : w.heap.size ≤ g
  lt : g < w'.heap.size
  is : TokSl w' g 0 l
  free : ∀ o, w'.frozen? ⟨g, o, none⟩ = false
  cap : n ≤ cp
  room : cp ≤ 9223372036854775807
  len : l.length = n

theorem tokens_new {s : ByteArray} {xs : List (Tok × Nat)} {n : Nat} (hs : ¬ 262144 < s.size) (hT : toksOf s = .ok xs) (hn : xs.length = n) (w : World) (hG : Glob w) :
    Calls Tryz.prog 38 #[.string s] w fun e w' => (∃ g cp, e = .returned (.tuple #[.slice (some ⟨g, 0, none⟩) (n + 1) cp, .agg #[.int .i64 0, .int .i64 0]]) ∧ NewTok w w' g (toksR xs s.size) (n + 1) cp) ∧ Keeps [] w w' := by
  subst hn
  refine (tokens_good hs hT w hG).mono fun e w' ⟨⟨g, cp, h1, h2, h3, h4, h5, h6⟩, hk⟩ => ⟨⟨g, cp, h1, ?_⟩, hk⟩
  rcases h4.2 with ⟨he, _⟩ | ⟨g', cap, cur, he, hb, hg, _⟩
  · cases he
  · cases he
    exact ⟨by omega, heap_lt hg, h3, fun o => by simp [World.frozen?, hg], h5, h6, toksR_length xs _⟩

theorem join_bad {l : List TokR} {v : Value} {c : Int} (h : joinM l = .error c) (w : World) (hG : Glob w) (hok : ∀ x ∈ l, x.ok) (hA : ArgTok w v l) :
    Calls Tryz.prog 27 #[v] w fun e w' => e = .returned (.tuple #[.string ⟨#[]⟩, .int .i64 c]) ∧ Keeps [] w w' :=
  (join_arg w hG hok hA).mono fun e w' ⟨h1, h2⟩ => ⟨by rw [h] at h1; exact h1, h2⟩

theorem join_fine {l : List TokR} {v : Value} {b : List UInt8} (h : joinM l = .ok b) (w : World) (hG : Glob w) (hok : ∀ x ∈ l, x.ok) (hA : ArgTok w v l) :
    Calls Tryz.prog 27 #[v] w fun e w' => e = .returned (.tuple #[.string ⟨b.toArray⟩, .int .i64 0]) ∧ Keeps [] w w' :=
  (join_arg w hG hok hA).mono fun e w' ⟨h1, h2⟩ => ⟨by rw [h] at h1; exact h1, h2⟩

theorem joinM_code {l : List TokR} {c : Int} (h : joinM l = .error c) : (c != 0) = true := by
  rcases joinM_bad h with rfl | rfl <;> rfl

theorem NewTok.arg {w w' : World} {g n cp : Nat} {l : List TokR} (h : NewTok w w' g l n cp) : ArgTok w' (.slice (some ⟨g, 0, none⟩) n cp) l :=
  ⟨some ⟨g, 0, none⟩, cp, by rw [h.len], (fun e => nomatch e), fun _ => ⟨g, 0, rfl, h.is, by rw [h.len]; exact h.cap, h.room⟩⟩

theorem core_pre {l l' : List TokR} (h : (l'.take l.length).map coreR = l.map coreR) : ∀ k, k < l.length → ∃ x x', l'[k]? = some x ∧ l[k]? = some x' ∧ x.kind = x'.kind ∧ x.s = x'.s ∧ x.n = x'.n := by
  intro k hk
  have hlen := congrArg List.length h
  simp only [List.length_map, List.length_take] at hlen
  have h1 : k < l'.length := by omega
  have e1 : l'[k]? = some l'[k] := List.getElem?_eq_getElem h1
  have e2 : l[k]? = some l[k] := List.getElem?_eq_getElem hk
  have e3 : (l'.take l.length)[k]? = some l'[k] := by rw [List.getElem?_take, if_pos hk, e1]
  exact ⟨_, _, e1, e2, core_at h e3 e2⟩

/-- Behind a join: what is parted is what was joined. -/
theorem back_core {l l0 : List TokR} {ts : List (List UInt8 × Tok)} {ys : List (Tok × Nat)} (hco : ts.map (fun p => coreT p.2) = l0.map coreR) (hy : ys.map (·.1) = ts.map (·.2)) (sz : Nat)
    (hor : (l0 = l ∧ ∀ x, l.getLast? = some x → x.kind ≠ 0) ∨ ∃ x, l = l0 ++ [x] ∧ coreR x = (0, [], 0)) : ((toksR ys sz).take l.length).map coreR = l.map coreR := by
  have h1 : (ys.map tokR).map coreR = l0.map coreR := by
    rw [List.map_map]
    have e : (coreR ∘ tokR) = coreT ∘ (·.1) := funext core_tokR
    rw [e, ← List.map_map, hy, List.map_map, ← hco]
    rfl
  have hlen := congrArg List.length h1
  simp only [List.length_map] at hlen
  rcases hor with ⟨rfl, _⟩ | ⟨x, rfl, hx⟩
  · unfold toksR
    rw [List.take_append_of_le_length (by simp; omega), List.take_of_length_le (by simp; omega)]
    exact h1
  · rw [List.take_of_length_le (by rw [toksR_length]; simp; omega)]
    unfold toksR
    rw [List.map_append, List.map_append, h1, List.map_singleton, List.map_singleton, hx]
    rfl

end Go.Proofs.YtefcmijobbgpbaaGreatDoor

namespace Go.Proofs.YtefcmijobbgpbaaGreatDoor

/-- One token, joined alone. -/
theorem joinM_one {wd : List UInt8} {t : Tok} (h : lexOne wd = some (t, wd.length)) (a : Nat) : joinM [tokR (t, a)] = .ok wd := by
  have h6 := written_lex h
  rw [List.take_length] at h6
  have hb := lexOne_bounds h
  have hw : wtn (tokR (t, a)) = some wd := by
    unfold wtn tokR
    exact h6
  have hl := lexOne_short h
  rw [jm_not (l := [tokR (t, a)]) (n := 0) rfl rfl (by simp only [tokR]; omega)]
  rw [core_all (by simp) (ws := [wd]) (by simp only [wrAll, hw])]
  rw [if_neg (by simp only [joinW]; omega)]
  rfl

/-- The tokens of a text, with the places behind them (E) and their words (W). -/
def LayT (T : List UInt8) (xs : List (Tok × Nat)) (at_ : Nat) (E : Nat → Nat) (W : Nat → List UInt8) : Prop :=
  E 0 = at_ ∧ (∀ i, i < xs.length → ∃ t a, xs[i]? = some (t, a) ∧ E i ≤ a ∧ a + (W i).length ≤ T.length ∧ E (i + 1) = a + (W i).length ∧ (T.drop a).take (W i).length = W i ∧ lexOne (W i) = some (t, (W i).length) ∧ ∀ k c, E i ≤ k → k < a → T[k]? = some c → isBlank c = true) ∧
    E xs.length ≤ T.length ∧ ∀ k c, E xs.length ≤ k → T[k]? = some c → isBlank c = true

theorem layT_of : ∀ (ts : List (List UInt8 × List UInt8 × Tok)) (tl T : List UInt8) (at_ : Nat), at_ ≤ T.length → T.drop at_ = textOf ts tl → (∀ q ∈ ts, (∀ c ∈ q.1, isBlank c = true) ∧ lexOne q.2.1 = some (q.2.2, q.2.1.length)) → (∀ c ∈ tl, isBlank c = true) →
    ∃ E W, LayT T (placed ts at_) at_ E W
  | [], tl, T, at_, hat, hT, _, htl => by
    refine ⟨fun _ => at_, fun _ => [], rfl, fun i hi => by simp [placed] at hi, hat, fun k c hk hc => ?_⟩
    apply htl
    have h1 : (T.drop at_)[k - at_]? = some c := by rw [List.getElem?_drop]; have : at_ + (k - at_) = k := by (have h : at_ ≤ k := hk); omega
                                                    rw [this]; exact hc
    rw [hT] at h1
    exact List.mem_of_getElem? h1
  | (g, wd, t) :: r, tl, T, at_, hat, hT, hq, htl => by
    have hlen : T.length = at_ + (g.length + (wd.length + (textOf r tl).length)) := by
      have h1 := congrArg List.length hT
      simp only [List.length_drop, textOf, List.length_append] at h1
      omega
    have hT2 : T.drop (at_ + g.length) = wd ++ textOf r tl := by
      rw [← List.drop_drop, hT]
      simp [textOf]
    have hT3 : T.drop (at_ + g.length + wd.length) = textOf r tl := by
      rw [← List.drop_drop, hT2]
      simp
    obtain ⟨E, W, h0, h1, h2, h3⟩ := layT_of r tl T (at_ + g.length + wd.length) (by omega) hT3 (fun q hm => hq q (by simp [hm])) htl
    obtain ⟨q1, q2⟩ := hq (g, wd, t) (by simp)
    refine ⟨fun i => if i = 0 then at_ else E (i - 1), fun i => if i = 0 then wd else W (i - 1), by simp, fun i hi => ?_, ?_, ?_⟩
    · cases i with
      | zero =>
        refine ⟨t, at_ + g.length, by simp [placed], by simp, by simp; omega, by simp [h0], ?_, by simpa using q2, fun k c hk hka hc => ?_⟩
        · simp [hT2]
        · simp at hk
          apply q1
          have e1 : (T.drop at_)[k - at_]? = some c := by rw [List.getElem?_drop, show at_ + (k - at_) = k by omega]; exact hc
          rw [hT] at e1
          simp only [textOf] at e1
          rw [List.getElem?_append_left (by omega)] at e1
          exact List.mem_of_getElem? e1
      | succ i =>
        simp only [placed, List.length_cons] at hi
        obtain ⟨t', a', r1, r2⟩ := h1 i (by omega)
        refine ⟨t', a', by simpa [placed] using r1, ?_⟩
        simpa using r2
    · simpa [placed] using h2
    · simpa [placed] using h3

theorem lay_of {s : ByteArray} {xs : List (Tok × Nat)} (h : toksOf s = .ok xs) : ∃ E W, LayT s.data.toList xs 0 E W := by
  unfold toksOf at h
  obtain ⟨ts, tl, h1, h2, h3, h4, _⟩ := lexAll_back _ _ _ _ _ (by show s.data.toList.length < s.data.size + 1; rw [Array.length_toList]; omega) (by omega) h
  subst h4
  exact layT_of ts tl _ 0 (by omega) (by rw [List.drop_zero]; exact h1) h2 h3

/-- Words with the same blanks ahead of each and behind the last. -/
def between (gap : List UInt8) : List (List UInt8) → List UInt8
  | [] => gap
  | w :: r => gap ++ (w ++ between gap r)

theorem between_snoc (gap : List UInt8) (ws : List (List UInt8)) (w : List UInt8) : between gap (ws ++ [w]) = between gap ws ++ (w ++ gap) := by
  induction ws with
  | nil => simp [between]
  | cons v r ih => simp [between, ih]

theorem between_text (gap : List UInt8) (ts : List (List UInt8 × Tok)) : between gap (ts.map (·.1)) = textOf (ts.map fun p => (gap, p.1, p.2)) gap := by
  induction ts with
  | nil => rfl
  | cons p r ih => simp [between, textOf, ih]

theorem between_len (gap : List UInt8) (ws : List (List UInt8)) (h : ∀ w ∈ ws, w.length ≤ 300) : (between gap ws).length ≤ gap.length + ws.length * (300 + gap.length) := by
  induction ws with
  | nil => simp [between]
  | cons v r ih =>
    have h1 := ih (fun w hw => h w (by simp [hw]))
    have h2 := h v (by simp)
    simp only [between, List.length_append, List.length_cons]
    rw [Nat.add_mul]
    omega

theorem between_ge (gap : List UInt8) (ws : List (List UInt8)) (h : ∀ w ∈ ws, 1 ≤ w.length) : ws.length ≤ (between gap ws).length := by
  induction ws with
  | nil => simp
  | cons v r ih =>
    have h1 := ih (fun w hw => h w (by simp [hw]))
    have h2 := h v (by simp)
    simp only [between, List.length_append, List.length_cons]
    omega

/-- However many blanks: the same tokens. -/
theorem toks_between {gap : List UInt8} (hg : ∀ c ∈ gap, isBlank c = true) (hne : gap ≠ []) {ts : List (List UInt8 × Tok)} (h : ∀ p ∈ ts, lexOne p.1 = some (p.2, p.1.length)) (hn : ts.length ≤ 4096) :
    ∃ ys, toksOf ⟨(between gap (ts.map (·.1))).toArray⟩ = .ok ys ∧ ys.map (·.1) = ts.map (·.2) := by
  have hlen := between_ge gap (ts.map (·.1)) (by
    intro w hw
    obtain ⟨q, hq, rfl⟩ := List.mem_map.1 hw
    exact (lexOne_len (h q hq)).1)
  rw [List.length_map] at hlen
  have h3 := lexAll_text (ts.map fun p => (gap, p.1, p.2)) gap ((between gap (ts.map (·.1))).length + 1) 0 0 (by
    intro q hq
    obtain ⟨p, hp, rfl⟩ := List.mem_map.1 hq
    exact ⟨hg, h p hp⟩) (by
    intro q hq
    obtain ⟨p, _, rfl⟩ := List.mem_map.1 (List.mem_of_mem_tail hq)
    exact hne) hg (by simpa using hn) (by rw [List.length_map]; omega)
  rw [← between_text] at h3
  refine ⟨placed (ts.map fun p => (gap, p.1, p.2)) 0, ?_, ?_⟩
  · unfold toksOf
    have e : (⟨(between gap (ts.map (·.1))).toArray⟩ : ByteArray).size = (between gap (ts.map (·.1))).length := by simp [ByteArray.size]
    rw [e]
    simpa using h3
  · rw [placed_toks, List.map_map]
    rfl

/-- What the tokens, with the end behind them, tell at a place. -/
theorem lay_at {s : ByteArray} {xs : List (Tok × Nat)} {E : Nat → Nat} {W : Nat → List UInt8} (h : LayT s.data.toList xs 0 E W) {q : Nat} (hq : xs.length = q) {k : Nat} (hk : k ≤ q) :
    ∃ (x : TokR) (a : Nat), (toksR xs s.size)[k]? = some x ∧ x.at_ = (a : Int) ∧ E k ≤ a ∧ a ≤ s.size ∧ (∀ m (hm : m < s.size), E k ≤ m → m < a → isBlank s[m] = true) ∧ (k = q → x.kind = 0 ∧ a = s.size) ∧
      (k < q → ∃ t, x = tokR (t, a) ∧ a + (W k).length ≤ s.size ∧ E (k + 1) = a + (W k).length ∧ (s.data.toList.drop a).take (W k).length = W k ∧ lexOne (W k) = some (t, (W k).length)) := by
  obtain ⟨_, h1, h2, h3⟩ := h
  have hl : s.data.toList.length = s.size := Array.length_toList
  have hb : ∀ m (hm : m < s.size), s.data.toList[m]? = some s[m] := fun m hm => by
    rw [List.getElem?_eq_getElem (by rw [hl]; exact hm)]
    simp [ByteArray.getElem_eq_getElem_data]
  rcases Nat.lt_or_ge k q with hlt | hge
  · obtain ⟨t, a, r1, r2, r3, r4, r5, r6, r7⟩ := h1 k (by omega)
    rw [hl] at r3
    refine ⟨tokR (t, a), a, ?_, rfl, r2, by omega, fun m hm hm1 hm2 => r7 m _ hm1 hm2 (hb m hm), fun e => by omega, fun _ => ⟨t, rfl, r3, r4, r5, r6⟩⟩
    unfold toksR
    rw [List.getElem?_append_left (by simp; omega), List.getElem?_map, r1]
    rfl
  · have hkq : k = q := by omega
    subst hkq
    refine ⟨⟨0, ⟨#[]⟩, 0, s.size⟩, s.size, ?_, rfl, by rw [← hq, ← hl]; exact h2, Nat.le_refl _, fun m hm hm1 _ => h3 m _ (by rw [hq]; exact hm1) (hb m hm), fun _ => ⟨rfl, rfl⟩, fun e => by omega⟩
    unfold toksR
    rw [List.getElem?_append_right (by simp; omega)]
    simp [hq]

end Go.Proofs.YtefcmijobbgpbaaGreatDoor
