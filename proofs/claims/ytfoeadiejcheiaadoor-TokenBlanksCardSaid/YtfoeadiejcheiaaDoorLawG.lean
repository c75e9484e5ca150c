/- Where tokens stand in a text; a text of words with blanks between, plainly. -/
import Derived.Test.YtfoeadiejcheiaaDoorBackB
namespace Go.Proofs.YtfoeadiejcheiaaDoor

/-- One token, joined alone. -/
theorem joinM_one {wd : List UInt8} {t : Tok} (h : lexOne wd = some (t, wd.length)) (a : Nat) : joinM [tokR (t, a)] = .ok wd := by
  have h6 := written_lex h
  rw [List.take_length] at h6
  have hb := lexOne_bounds h
  have hw : wtn (tokR (t, a)) = some wd := by
    unfold wtn tokR
    exact h6
  have hl := lexOne_short h
  rw [jm_not (l := [tokR (t, a)]) (n := 0) rfl rfl (by simp only [tokR]; omega)]
  rw [core_all (by simp) (ws := [wd]) (by simp only [wrAll, hw])]
  rw [if_neg (by simp only [joinW]; omega)]
  rfl

/-- The tokens of a text, with the places behind them (E) and their words (W). -/
def LayT (T : List UInt8) (xs : List (Tok × Nat)) (at_ : Nat) (E : Nat → Nat) (W : Nat → List UInt8) : Prop :=
  E 0 = at_ ∧ (∀ i, i < xs.length → ∃ t a, xs[i]? = some (t, a) ∧ E i ≤ a ∧ a + (W i).length ≤ T.length ∧ E (i + 1) = a + (W i).length ∧ (T.drop a).take (W i).length = W i ∧ lexOne (W i) = some (t, (W i).length) ∧ ∀ k c, E i ≤ k → k < a → T[k]? = some c → isBlank c = true) ∧
    E xs.length ≤ T.length ∧ ∀ k c, E xs.length ≤ k → T[k]? = some c → isBlank c = true

theorem layT_of : ∀ (ts : List (List UInt8 × List UInt8 × Tok)) (tl T : List UInt8) (at_ : Nat), at_ ≤ T.length → T.drop at_ = textOf ts tl → (∀ q ∈ ts, (∀ c ∈ q.1, isBlank c = true) ∧ lexOne q.2.1 = some (q.2.2, q.2.1.length)) → (∀ c ∈ tl, isBlank c = true) →
    ∃ E W, LayT T (placed ts at_) at_ E W
  | [], tl, T, at_, hat, hT, _, htl => by
    refine ⟨fun _ => at_, fun _ => [], rfl, fun i hi => by simp [placed] at hi, hat, fun k c hk hc => ?_⟩
    apply htl
    have h1 : (T.drop at_)[k - at_]? = some c := by rw [List.getElem?_drop]; have : at_ + (k - at_) = k := by (have h : at_ ≤ k := hk); omega
                                                    rw [this]; exact hc
    rw [hT] at h1
    exact List.mem_of_getElem? h1
  | (g, wd, t) :: r, tl, T, at_, hat, hT, hq, htl => by
    have hlen : T.length = at_ + (g.length + (wd.length + (textOf r tl).length)) := by
      have h1 := congrArg List.length hT
      simp only [List.length_drop, textOf, List.length_append] at h1
      omega
    have hT2 : T.drop (at_ + g.length) = wd ++ textOf r tl := by
      rw [← List.drop_drop, hT]
      simp [textOf]
    have hT3 : T.drop (at_ + g.length + wd.length) = textOf r tl := by
      rw [← List.drop_drop, hT2]
      simp
    obtain ⟨E, W, h0, h1, h2, h3⟩ := layT_of r tl T (at_ + g.length + wd.length) (by omega) hT3 (fun q hm => hq q (by simp [hm])) htl
    obtain ⟨q1, q2⟩ := hq (g, wd, t) (by simp)
    refine ⟨fun i => if i = 0 then at_ else E (i - 1), fun i => if i = 0 then wd else W (i - 1), by simp, fun i hi => ?_, ?_, ?_⟩
    · cases i with
      | zero =>
        refine ⟨t, at_ + g.length, by simp [placed], by simp, by simp; omega, by simp [h0], ?_, by simpa using q2, fun k c hk hka hc => ?_⟩
        · simp [hT2]
        · simp at hk
          apply q1
          have e1 : (T.drop at_)[k - at_]? = some c := by rw [List.getElem?_drop, show at_ + (k - at_) = k by omega]; exact hc
          rw [hT] at e1
          simp only [textOf] at e1
          rw [List.getElem?_append_left (by omega)] at e1
          exact List.mem_of_getElem? e1
      | succ i =>
        simp only [placed, List.length_cons] at hi
        obtain ⟨t', a', r1, r2⟩ := h1 i (by omega)
        refine ⟨t', a', by simpa [placed] using r1, ?_⟩
        simpa using r2
    · simpa [placed] using h2
    · simpa [placed] using h3

theorem lay_of {s : ByteArray} {xs : List (Tok × Nat)} (h : toksOf s = .ok xs) : ∃ E W, LayT s.data.toList xs 0 E W := by
  unfold toksOf at h
  obtain ⟨ts, tl, h1, h2, h3, h4, _⟩ := lexAll_back _ _ _ _ _ (by show s.data.toList.length < s.data.size + 1; rw [Array.length_toList]; omega) (by omega) h
  subst h4
  exact layT_of ts tl _ 0 (by omega) (by rw [List.drop_zero]; exact h1) h2 h3

/-- Words with the same blanks ahead of each and behind the last. -/
def between (gap : List UInt8) : List (List UInt8) → List UInt8
  | [] => gap
  | w :: r => gap ++ (w ++ between gap r)

theorem between_snoc (gap : List UInt8) (ws : List (List UInt8)) (w : List UInt8) : between gap (ws ++ [w]) = between gap ws ++ (w ++ gap) := by
  induction ws with
  | nil => simp [between]
  | cons v r ih => simp [between, ih]

theorem between_text (gap : List UInt8) (ts : List (List UInt8 × Tok)) : between gap (ts.map (·.1)) = textOf (ts.map fun p => (gap, p.1, p.2)) gap := by
  induction ts with
  | nil => rfl
  | cons p r ih => simp [between, textOf, ih]

theorem between_len (gap : List UInt8) (ws : List (List UInt8)) (h : ∀ w ∈ ws, w.length ≤ 300) : (between gap ws).length ≤ gap.length + ws.length * (300 + gap.length) := by
  induction ws with
  | nil => simp [between]
  | cons v r ih =>
    have h1 := ih (fun w hw => h w (by simp [hw]))
    have h2 := h v (by simp)
    simp only [between, List.length_append, List.length_cons]
    rw [Nat.add_mul]
    omega

theorem between_ge (gap : List UInt8) (ws : List (List UInt8)) (h : ∀ w ∈ ws, 1 ≤ w.length) : ws.length ≤ (between gap ws).length := by
  induction ws with
  | nil => simp
  | cons v r ih =>
    have h1 := ih (fun w hw => h w (by simp [hw]))
    have h2 := h v (by simp)
    simp only [between, List.length_append, List.length_cons]
    omega

/-- However many blanks: the same tokens. -/
theorem toks_between {gap : List UInt8} (hg : ∀ c ∈ gap, isBlank c = true) (hne : gap ≠ []) {ts : List (List UInt8 × Tok)} (h : ∀ p ∈ ts, lexOne p.1 = some (p.2, p.1.length)) (hn : ts.length ≤ 4096) :
    ∃ ys, toksOf ⟨(between gap (ts.map (·.1))).toArray⟩ = .ok ys ∧ ys.map (·.1) = ts.map (·.2) := by
  have hlen := between_ge gap (ts.map (·.1)) (by
    intro w hw
    obtain ⟨q, hq, rfl⟩ := List.mem_map.1 hw
    exact (lexOne_len (h q hq)).1)
  rw [List.length_map] at hlen
  have h3 := lexAll_text (ts.map fun p => (gap, p.1, p.2)) gap ((between gap (ts.map (·.1))).length + 1) 0 0 (by
    intro q hq
    obtain ⟨p, hp, rfl⟩ := List.mem_map.1 hq
    exact ⟨hg, h p hp⟩) (by
    intro q hq
    obtain ⟨p, _, rfl⟩ := List.mem_map.1 (List.mem_of_mem_tail hq)
    exact hne) hg (by simpa using hn) (by rw [List.length_map]; omega)
  rw [← between_text] at h3
  refine ⟨placed (ts.map fun p => (gap, p.1, p.2)) 0, ?_, ?_⟩
  · unfold toksOf
    have e : (⟨(between gap (ts.map (·.1))).toArray⟩ : ByteArray).size = (between gap (ts.map (·.1))).length := by simp [ByteArray.size]
    rw [e]
    simpa using h3
  · rw [placed_toks, List.map_map]
    rfl

/-- What the tokens, with the end behind them, tell at a place. -/
theorem lay_at {s : ByteArray} {xs : List (Tok × Nat)} {E : Nat → Nat} {W : Nat → List UInt8} (h : LayT s.data.toList xs 0 E W) {q : Nat} (hq : xs.length = q) {k : Nat} (hk : k ≤ q) :
    ∃ (x : TokR) (a : Nat), (toksR xs s.size)[k]? = some x ∧ x.at_ = (a : Int) ∧ E k ≤ a ∧ a ≤ s.size ∧ (∀ m (hm : m < s.size), E k ≤ m → m < a → isBlank s[m] = true) ∧ (k = q → x.kind = 0 ∧ a = s.size) ∧
      (k < q → ∃ t, x = tokR (t, a) ∧ a + (W k).length ≤ s.size ∧ E (k + 1) = a + (W k).length ∧ (s.data.toList.drop a).take (W k).length = W k ∧ lexOne (W k) = some (t, (W k).length)) := by
  obtain ⟨_, h1, h2, h3⟩ := h
  have hl : s.data.toList.length = s.size := Array.length_toList
  have hb : ∀ m (hm : m < s.size), s.data.toList[m]? = some s[m] := fun m hm => by
    rw [List.getElem?_eq_getElem (by rw [hl]; exact hm)]
    simp [ByteArray.getElem_eq_getElem_data]
  rcases Nat.lt_or_ge k q with hlt | hge
  · obtain ⟨t, a, r1, r2, r3, r4, r5, r6, r7⟩ := h1 k (by omega)
    rw [hl] at r3
    refine ⟨tokR (t, a), a, ?_, rfl, r2, by omega, fun m hm hm1 hm2 => r7 m _ hm1 hm2 (hb m hm), fun e => by omega, fun _ => ⟨t, rfl, r3, r4, r5, r6⟩⟩
    unfold toksR
    rw [List.getElem?_append_left (by simp; omega), List.getElem?_map, r1]
    rfl
  · have hkq : k = q := by omega
    subst hkq
    refine ⟨⟨0, ⟨#[]⟩, 0, s.size⟩, s.size, ?_, rfl, by rw [← hq, ← hl]; exact h2, Nat.le_refl _, fun m hm hm1 _ => h3 m _ (by rw [hq]; exact hm1) (hb m hm), fun _ => ⟨rfl, rfl⟩, fun e => by omega⟩
    unfold toksR
    rw [List.getElem?_append_right (by simp; omega)]
    simp [hq]

end Go.Proofs.YtfoeadiejcheiaaDoor
