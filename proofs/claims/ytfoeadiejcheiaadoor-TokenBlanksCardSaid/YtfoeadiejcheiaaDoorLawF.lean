/- Tokens there and back, plainly. -/
import Derived.Test.YtfoeadiejcheiaaDoorLawE
namespace Go.Proofs.YtfoeadiejcheiaaDoor

theorem lexOne_bounds {l : List UInt8} {t : Tok} {k : Nat} (h : lexOne l = some (t, k)) : t.n ≤ 9223372036854775807 ∧ t.s.length ≤ 300 ∧ 1 ≤ t.kind := by
  cases l with
  | nil => simp [lexOne] at h
  | cons c r =>
    simp only [lexOne] at h
    split at h
    · split at h
      · rename_i hk
        cases h
        exact ⟨by simp, by simp only [List.length_take]; omega, by simp⟩
      · cases h
    · split at h
      · split at h
        · rename_i hk
          cases h
          exact ⟨hk.1, by simp, by simp⟩
        · cases h
      · split at h
        · split at h
          · rename_i hk
            cases h
            exact ⟨by simp, by simp only [List.length_take]; omega, by simp⟩
          · cases h
        · split at h
          · split at h
            · cases h
              exact ⟨by simp, by simp, by simp⟩
            · split at h
              · cases h
              · cases h
                exact ⟨by simp, by simp, by simp⟩
          · cases h

/-- What a token is, without its place. -/
def coreT (t : Tok) : Int × List UInt8 × Int := ((t.kind : Int), t.s, (t.n : Int))
def coreR (x : TokR) : Int × List UInt8 × Int := (x.kind, x.s.data.toList, x.n)

theorem core_tokR (p : Tok × Nat) : coreR (tokR p) = coreT p.1 := by simp [coreR, tokR, coreT]

theorem wrAll_toks : ∀ {l : List TokR} {ws : List (List UInt8)}, wrAll l = some ws → ∃ ts : List (List UInt8 × Tok), ws = ts.map (·.1) ∧ (∀ p ∈ ts, lexOne p.1 = some (p.2, p.1.length)) ∧ ts.map (fun p => coreT p.2) = l.map coreR
  | [], ws, h => by
    simp only [wrAll, Option.some.injEq] at h
    subst h
    exact ⟨[], rfl, by simp, rfl⟩
  | x :: l, ws, h => by
    simp only [wrAll] at h
    split at h
    · cases h
    · rename_i a ha
      split at h
      · cases h
      · rename_i b hb
        simp only [Option.some.injEq] at h
        subst h
        obtain ⟨ts, rfl, h1, h2⟩ := wrAll_toks hb
        obtain ⟨t, h3, h4, h5, h6⟩ := written_some ha
        refine ⟨(a, t) :: ts, rfl, fun p hp => ?_, ?_⟩
        · rcases List.mem_cons.1 hp with rfl | hp
          · exact h3
          · exact h1 p hp
        · have e : coreT t = coreR x := by simp only [coreT, coreR, h4, h5, h6]
          rw [List.map_cons, List.map_cons, h2]
          exact congrArg (· :: _) e

/-- Tokens of a text, each written: all come out. -/
theorem wrAll_of : ∀ (ts : List (List UInt8 × Tok)) (l : List TokR), ts.map (fun p => coreT p.2) = l.map coreR → (∀ p ∈ ts, writtenM p.2.kind p.2.s p.2.n = some p.1) → wrAll l = some (ts.map (·.1))
  | [], [], _, _ => rfl
  | [], x :: l, h, _ => by cases h
  | p :: ts, [], h, _ => by cases h
  | p :: ts, x :: l, h, hw => by
    simp only [List.map_cons, List.cons.injEq] at h
    have ih := wrAll_of ts l h.2 (fun q hq => hw q (by simp [hq]))
    have h1 := hw p (by simp)
    have h2 := h.1
    simp only [coreT, coreR, Prod.mk.injEq] at h2
    have h3 : wtn x = some p.1 := by
      unfold wtn
      rw [← h2.1, ← h2.2.1, ← h2.2.2]
      exact h1
    simp only [wrAll, h3, ih, List.map_cons]

/-- The join of what Tokens answered. -/
theorem join_toks {s : ByteArray} {xs : List (Tok × Nat)} (h : toksOf s = .ok xs) (sz : Nat) :
    ∃ ts : List (List UInt8 × Tok), (∀ p ∈ ts, lexOne p.1 = some (p.2, p.1.length)) ∧ xs.map (·.1) = ts.map (·.2) ∧ ts.length ≤ 4096 ∧ joinM (toksR xs sz) = if 262144 < (joinW (ts.map (·.1))).length then .error 2 else .ok (joinW (ts.map (·.1))) := by
  unfold toksOf at h
  obtain ⟨ts, h1, h2, h3⟩ := lexAll_words (by simp) h
  refine ⟨ts, fun p hp => (h2 p hp).1, h1, h3, ?_⟩
  have hl : (toksR xs sz).length = xs.length + 1 := toksR_length xs sz
  have hx : (toksR xs sz)[xs.length]? = some ⟨0, ⟨#[]⟩, 0, sz⟩ := by simp [toksR]
  have hd : (toksR xs sz).dropLast = xs.map tokR := by simp [toksR]
  have hxl : xs.length = ts.length := by have := congrArg List.length h1; simpa using this
  rw [jm_end hl hx rfl, if_neg (by simp [ByteArray.size]), hd]
  refine core_all (by simp; omega) (wrAll_of ts _ ?_ (fun p hp => (h2 p hp).2))
  rw [List.map_map]
  have e : (coreR ∘ tokR) = fun p : Tok × Nat => coreT p.1 := funext core_tokR
  rw [e]
  have h4 := congrArg (List.map coreT) h1
  rw [List.map_map, List.map_map] at h4
  exact h4.symm

theorem toks_join {ts : List (List UInt8 × Tok)} (h : ∀ p ∈ ts, lexOne p.1 = some (p.2, p.1.length)) (hn : ts.length ≤ 4096) :
    ∃ ys, toksOf ⟨(joinW (ts.map (·.1))).toArray⟩ = .ok ys ∧ ys.map (·.1) = ts.map (·.2) := by
  have hlen : ∀ ts : List (List UInt8 × Tok), (∀ p ∈ ts, lexOne p.1 = some (p.2, p.1.length)) → ts.length ≤ (joinW (ts.map (·.1))).length := by
    intro ts h
    cases ts with
    | nil => simp
    | cons p ts =>
      have h1 := joinW_length ((p :: ts).map (·.1)) (by simp)
      have h2 : ∀ ws : List (List UInt8), (∀ w ∈ ws, 1 ≤ w.length) → 2 * ws.length ≤ longOf ws := by
        intro ws hw
        induction ws with
        | nil => simp [longOf]
        | cons w ws ih =>
          have i1 := ih (fun v hv => hw v (by simp [hv]))
          have i2 := hw w (by simp)
          simp only [longOf, List.map_cons, List.sum_cons, List.length_cons] at i1 ⊢
          omega
      have h3 := h2 ((p :: ts).map (·.1)) (by
        intro w hw
        obtain ⟨q, hq, rfl⟩ := List.mem_map.1 hw
        exact (lexOne_len (h q hq)).1)
      simp only [List.length_map, List.length_cons] at h3 ⊢
      omega
  unfold toksOf
  exact lexAll_join h hn (by have := hlen ts h; show ts.length < (joinW (ts.map (·.1))).toArray.size + 1; simp; omega)

theorem joinCore_ok {l : List TokR} {b : List UInt8} (h : joinCore l = .ok b) : ∃ ts : List (List UInt8 × Tok), b = joinW (ts.map (·.1)) ∧ (∀ p ∈ ts, lexOne p.1 = some (p.2, p.1.length)) ∧ ts.map (fun p => coreT p.2) = l.map coreR ∧ ts.length ≤ 4096 ∧ b.length ≤ 262144 := by
  unfold joinCore at h
  split at h
  · cases h
  · rename_i h1
    split at h
    · cases h
    · rename_i ws hws
      split at h
      · cases h
      · rename_i h2
        simp only [Except.ok.injEq] at h
        obtain ⟨ts, rfl, h3, h4⟩ := wrAll_toks hws
        have h5 := congrArg List.length h4
        simp only [List.length_map] at h5
        exact ⟨ts, h.symm, h3, h4, by omega, by rw [← h]; omega⟩

theorem joinCore_bad {l : List TokR} {c : Int} (h : joinCore l = .error c) : c = 2 ∨ c = 100 := by
  unfold joinCore at h
  split at h
  · cases h; exact .inl rfl
  · split at h
    · cases h; exact .inr rfl
    · split at h
      · cases h; exact .inl rfl
      · cases h

theorem joinM_bad {l : List TokR} {c : Int} (h : joinM l = .error c) : c = 2 ∨ c = 100 := by
  unfold joinM at h
  split at h
  · exact joinCore_bad h
  · split at h
    · split at h
      · cases h; exact .inr rfl
      · exact joinCore_bad h
    · exact joinCore_bad h

/-- What could be joined: the tokens, and it may be an end behind them. -/
theorem joinM_ok {l : List TokR} {b : List UInt8} (h : joinM l = .ok b) : ∃ (ts : List (List UInt8 × Tok)) (l0 : List TokR), b = joinW (ts.map (·.1)) ∧ (∀ p ∈ ts, lexOne p.1 = some (p.2, p.1.length)) ∧ ts.map (fun p => coreT p.2) = l0.map coreR ∧ ts.length ≤ 4096 ∧ b.length ≤ 262144 ∧
    ((l0 = l ∧ ∀ x, l.getLast? = some x → x.kind ≠ 0) ∨ ∃ x, l = l0 ++ [x] ∧ coreR x = (0, [], 0)) := by
  unfold joinM at h
  split at h
  · rename_i hl
    obtain ⟨ts, h1, h2, h3, h4, h5⟩ := joinCore_ok h
    exact ⟨ts, l, h1, h2, h3, h4, h5, .inl ⟨rfl, fun x hx => by rw [hl] at hx; cases hx⟩⟩
  · rename_i x hl
    split at h
    · rename_i hk
      split at h
      · cases h
      · rename_i hq
        obtain ⟨ts, h1, h2, h3, h4, h5⟩ := joinCore_ok h
        have hne : l ≠ [] := by intro e; rw [e] at hl; cases hl
        have hsplit : l = l.dropLast ++ [x] := by
          have e := List.dropLast_concat_getLast hne
          rw [List.getLast?_eq_some_getLast hne] at hl
          rw [Option.some.inj hl] at e
          exact e.symm
        have hlen : l.length - 1 ≤ 4096 := by
          have h6 := congrArg List.length h3
          simp only [List.length_map, List.length_dropLast] at h6
          omega
        have hs : x.s.size = 0 := by
          rcases Nat.eq_zero_or_pos x.s.size with h | h
          · exact h
          · exact absurd ⟨hlen, .inl (by omega)⟩ hq
        have hn : x.n = 0 := by
          rcases Classical.em (x.n = 0) with h | h
          · exact h
          · exact absurd ⟨hlen, .inr h⟩ hq
        have hs2 : x.s.data.toList = [] := List.eq_nil_of_length_eq_zero hs
        exact ⟨ts, l.dropLast, h1, h2, h3, h4, h5, .inr ⟨x, hsplit, by simp only [coreR, hk, hs2, hn]⟩⟩
    · rename_i hk
      obtain ⟨ts, h1, h2, h3, h4, h5⟩ := joinCore_ok h
      exact ⟨ts, l, h1, h2, h3, h4, h5, .inl ⟨rfl, fun y hy => by rw [hl] at hy; cases hy; exact hk⟩⟩

theorem toksR_ok {s : ByteArray} {xs : List (Tok × Nat)} (h : toksOf s = .ok xs) (sz : Nat) : ∀ x ∈ toksR xs sz, x.ok := by
  obtain ⟨ts, h1, h2, _⟩ := join_toks h sz
  intro x hx
  unfold toksR at hx
  rcases List.mem_append.1 hx with hx | hx
  · obtain ⟨p, hp, rfl⟩ := List.mem_map.1 hx
    have h3 : p.1 ∈ ts.map (·.2) := h2 ▸ List.mem_map.2 ⟨p, hp, rfl⟩
    obtain ⟨q, hq, hqp⟩ := List.mem_map.1 h3
    have hb := lexOne_bounds (h1 q hq)
    rw [hqp] at hb
    exact ⟨by simp only [tokR]; omega, by simp only [tokR]; omega, by show (p.1.s.toArray).size ≤ _; simp; omega⟩
  · simp at hx
    subst hx
    exact ⟨by simp, by simp, by simp [ByteArray.size]⟩

end Go.Proofs.YtfoeadiejcheiaaDoor
