/- There and back, plainly. -/
import Derived.Test.YtefcmijobbgpbaaGreatDoorExAA
import Derived.Test.YtefcmijobbgpbaaGreatDoorExL
namespace Go.Proofs.YtefcmijobbgpbaaGreatDoor

theorem runM_all {l : List TokR} {P : PartR → Prop} (h2 : ∀ k, (tokAt l k).kind = 2 → P (numP (tokAt l k).n)) (h3 : ∀ k, (tokAt l k).kind = 3 → P (textP (tokAt l k).s)) (h0 : ∀ f, P (fieldP ⟨#[]⟩ f)) (hf : ∀ k f, P (fieldP (tokAt l k).s f)) (ho : ∀ c, P (opP c)) : ∀ (f : Nat) (s : Option (List PartR)) (n k deep : Nat) {x : List PartR} {k' : Nat}, runM l f s n k deep = .ok x k' → (∀ y, s = some y → ∀ p ∈ y, P p) → ∀ p ∈ x, P p
  | 0, s, n, k, deep, x, k', h, _ => by simp [runM] at h
  | f + 1, some y, n, k, deep, x, k', h, hs => by
    simp only [runM] at h
    split at h
    · cases h
      exact hs _ rfl
    · split at h
      · cases h
      · rename_i z k1 hz
        have i1 := runM_all h2 h3 h0 hf ho f none _ _ _ hz (fun y h => by cases h)
        have i2 : ∀ (c : Int), ∀ p ∈ opP c :: (y ++ z), P p := fun c p hp => by
          rcases List.mem_cons.1 hp with rfl | hp
          · exact ho _
          · rcases List.mem_append.1 hp with hp | hp
            · exact hs _ rfl p hp
            · exact i1 p hp
        split at h
        · cases h
          exact i2 _
        · exact runM_all h2 h3 h0 hf ho f (some _) _ _ _ h (fun y' h' => by cases h'; exact i2 _)
  | f + 1, none, n, k, deep, x, k', h, _ => by
    have one : ∀ {q : PartR}, P q → ∀ p ∈ [q], P p := fun hq p hp => by simp at hp; subst hp; exact hq
    simp only [runM] at h
    split at h
    · split at h
      · rename_i hk2
        cases h
        exact one (h2 _ hk2)
      · split at h
        · rename_i hk3
          cases h
          exact one (h3 _ hk3)
        · split at h
          · unfold wordR at h
            split at h
            · cases h
              exact one (h0 _)
            · split at h
              · cases h
              · split at h
                · cases h
                · split at h
                  · cases h
                    exact one (hf _ _)
                  · cases h
          · split at h
            · cases h
            · split at h
              · cases h
              · split at h
                · cases h
                · rename_i y k1 hy
                  have i1 := runM_all h2 h3 h0 hf ho f none _ _ _ hy (fun y h => by cases h)
                  split at h
                  · cases h
                  · cases h
                    exact i1
    · split at h
      · split at h
        · split at h
          · cases h
          · split at h
            · cases h
            · rename_i y k1 hy
              have i1 := runM_all h2 h3 h0 hf ho f none _ _ _ hy (fun y h => by cases h)
              cases h
              intro p hp
              rcases List.mem_cons.1 hp with rfl | hp
              · exact ho _
              · exact i1 p hp
        · exact runM_all h2 h3 h0 hf ho f none _ _ _ h (fun y h => by cases h)
      · split at h
        · cases h
        · rename_i y k1 hy
          have i1 := runM_all h2 h3 h0 hf ho f none _ _ _ hy (fun y h => by cases h)
          exact runM_all h2 h3 h0 hf ho f (some _) _ _ _ h (fun y' h' => by cases h'; exact i1)


/-! ### Fuel -/
def needM (m : Nat) : Option (List PartR) → Nat → Nat → Nat
  | none, n, k => 8 * (m - k) + 7 - n
  | some _, _, k => 8 * (m - k) + 1

theorem runM_fuel {l : List TokR} {m : Nat} (hend : ∀ k, m ≤ k → (tokAt l k).kind = 0) : ∀ (f g : Nat) (s : Option (List PartR)) (n k deep : Nat), n ≤ 6 → (s ≠ none → n ≤ 5) → k ≤ m → needM m s n k ≤ f → needM m s n k ≤ g → runM l f s n k deep = runM l g s n k deep
  | 0, g, s, n, k, deep, h6, _, hk, hf, _ => by cases s <;> simp only [needM] at hf <;> omega
  | f + 1, 0, s, n, k, deep, h6, _, hk, _, hg => by cases s <;> simp only [needM] at hg <;> omega
  | f + 1, g + 1, some x, n, k, deep, h6, h5, hk, hf, hg => by
    simp only [needM] at hf hg
    have h5 := h5 (by simp)
    simp only [runM]
    cases hi : infixM n (tokAt l k) with
    | none => rfl
    | some o =>
      have hkm : k < m := by
        rcases Nat.lt_or_ge k m with h1 | h1
        · exact h1
        · exact absurd (hend k h1) (infix_word hi)
      have e1 := runM_fuel hend f g none (n + 1) (k + 1) deep (by omega) (fun h => absurd rfl h) (by omega) (by simp only [needM]; omega) (by simp only [needM]; omega)
      simp only
      rw [e1]
      cases hy : runM l g none (n + 1) (k + 1) deep with
      | stuck a => rfl
      | ok y k' =>
        have hmv := runM_moves hend g none (n + 1) (k + 1) deep hy (by omega)
        have h1 : k + 1 < k' := hmv.2.1
        have h2 := hmv.1
        simp only
        by_cases h3 : n = 3
        · rw [if_pos h3, if_pos h3]
        · rw [if_neg h3, if_neg h3]
          exact runM_fuel hend f g (some _) n k' deep h6 (fun _ => h5) h2 (by simp only [needM]; omega) (by simp only [needM]; omega)
  | f + 1, g + 1, none, n, k, deep, h6, _, hk, hf, hg => by
    simp only [needM] at hf hg
    have lt : ∀ {j : Nat}, (tokAt l j).kind ≠ 0 → j < m := fun {j} h1 => by
      rcases Nat.lt_or_ge j m with h2 | h2
      · exact h2
      · exact absurd (hend j h2) h1
    simp only [runM]
    by_cases e6 : n = 6
    · rw [if_pos e6, if_pos e6]
      by_cases k2 : (tokAt l k).kind = 2
      · rw [if_pos k2, if_pos k2]
      · rw [if_neg k2, if_neg k2]
        by_cases k3 : (tokAt l k).kind = 3
        · rw [if_pos k3, if_pos k3]
        · rw [if_neg k3, if_neg k3]
          by_cases k1 : (tokAt l k).kind = 1
          · rw [if_pos k1, if_pos k1]
          · rw [if_neg k1, if_neg k1]
            by_cases hs : isSignT (tokAt l k) bOpen = false
            · rw [if_pos hs, if_pos hs]
            · rw [if_neg hs, if_neg hs]
              have hkm := lt (j := k) (sign_kind hs)
              by_cases hd : 200 < deep + 1
              · rw [if_pos hd, if_pos hd]
              · rw [if_neg hd, if_neg hd]
                rw [runM_fuel hend f g none 0 (k + 1) (deep + 1) (by omega) (fun h => absurd rfl h) (by omega) (by simp only [needM]; omega) (by simp only [needM]; omega)]
    · rw [if_neg e6, if_neg e6]
      by_cases e2 : n = 2
      · rw [if_pos e2, if_pos e2]
        by_cases hw : isWordT (tokAt l k) bNot = true
        · rw [if_pos hw, if_pos hw]
          have hkm := lt (j := k) (word_kind hw)
          by_cases hd : 200 < deep + 1
          · rw [if_pos hd, if_pos hd]
          · rw [if_neg hd, if_neg hd]
            rw [runM_fuel hend f g none 2 (k + 1) (deep + 1) (by omega) (fun h => absurd rfl h) (by omega) (by simp only [needM]; omega) (by simp only [needM]; omega)]
        · rw [if_neg hw, if_neg hw]
          exact runM_fuel hend f g none 3 k deep (by omega) (fun h => absurd rfl h) hk (by simp only [needM]; omega) (by simp only [needM]; omega)
      · rw [if_neg e2, if_neg e2]
        rw [runM_fuel hend f g none (n + 1) k deep (by omega) (fun h => absurd rfl h) hk (by simp only [needM]; omega) (by simp only [needM]; omega)]
        cases hy : runM l g none (n + 1) k deep with
        | stuck a => rfl
        | ok y k' =>
          have hmv := runM_moves hend g none (n + 1) k deep hy hk
          have h1 : k < k' := hmv.2.1
          simp only
          exact runM_fuel hend f g (some _) n k' deep h6 (fun _ => by omega) hmv.1 (by simp only [needM]; omega) (by simp only [needM]; omega)

theorem Runs.at_fuel {l : List TokR} {n k' : Nat} {x : List PartR} (hend : ∀ k, n ≤ k → (tokAt l k).kind = 0) (h : Runs l none 0 0 0 x k') : runM l (parseFuel n) none 0 0 0 = .ok x k' := by
  obtain ⟨F, hF⟩ := h
  rw [← hF (F + parseFuel n) (by omega)]
  exact runM_fuel hend _ _ none 0 0 0 (by omega) (fun h => absurd rfl h) (by omega) (by simp only [needM, parseFuel]; omega) (by simp only [needM, parseFuel]; omega)

/-! ### What is written is read as the same -/
theorem midT_kind (k : Int) : (midT k).kind ≠ 0 := by unfold midT; split <;> simp [wordT, signT]

theorem toks_kind : ∀ (t : Ex) (o : Bool), t.well → ∀ x ∈ t.toks o, x.kind ≠ 0
  | .leaf p, o, hw, x, hx => by
    simp only [Ex.toks, leafToks] at hx
    split at hx
    · simp at hx; subst hx; simp
    · split at hx
      · simp at hx; subst hx; simp
      · split at hx
        · simp at hx; subst hx; simp [wordT]
        · simp at hx; rcases hx with rfl | rfl | rfl <;> simp [wordT, signT]
  | .neg p a, o, hw, x, hx => by
    have ha := toks_kind a false hw.2.2
    cases o
    · simp only [Ex.toks, fenced, Bool.false_eq_true, if_false, List.mem_cons, List.mem_append, List.not_mem_nil, or_false] at hx
      rcases hx with rfl | (rfl | hx) | rfl
      · simp [signT]
      · simp [wordT]
      · exact ha x hx
      · simp [signT]
    · simp only [Ex.toks, fenced, if_true, List.mem_cons] at hx
      rcases hx with rfl | hx
      · simp [wordT]
      · exact ha x hx
  | .bin p a b, o, hw, x, hx => by
    have ha := toks_kind a false hw.2.2.1
    have hb := toks_kind b false hw.2.2.2
    cases o
    · simp only [Ex.toks, fenced, Bool.false_eq_true, if_false, List.mem_cons, List.mem_append, List.not_mem_nil, or_false] at hx
      rcases hx with rfl | (hx | rfl | hx) | rfl
      · simp [signT]
      · exact ha x hx
      · exact midT_kind _
      · exact hb x hx
      · simp [signT]
    · simp only [Ex.toks, fenced, if_true, List.mem_cons, List.mem_append] at hx
      rcases hx with hx | rfl | hx
      · exact ha x hx
      · exact midT_kind _
      · exact hb x hx

theorem toksR_ends (xs : List (Tok × Nat)) (sz : Nat) : ∀ k, xs.length ≤ k → (tokAt (toksR xs sz) k).kind = 0 := fun k hk => by
  by_cases h : k = xs.length
  · rw [h, tokAt_last]
  · unfold tokAt
    rw [List.getD_eq_getElem?_getD, List.getElem?_eq_none (by rw [toksR_length]; omega)]
    rfl

theorem write_read {x : List PartR} {t : Ex} (hw : wholeM x = some t) {b : List UInt8} (hj : joinM (t.toks true) = .ok b) : readM ⟨b.toArray⟩ = .ok x := by
  have hwell := growM_well (wholeM_grow hw)
  have hparts := wholeM_parts hw
  obtain ⟨ts, l0, hb, hts, hco, hn, hbl, hor⟩ := joinM_ok hj
  obtain ⟨ys, hT, hy⟩ := toks_join hts hn
  rw [← hb] at hT
  have hl0 : l0 = t.toks true := by
    rcases hor with ⟨h, _⟩ | ⟨y, h, hy0⟩
    · exact h
    · exfalso
      have := toks_kind t true hwell.1 y (by rw [h]; simp)
      simp only [coreR, Prod.mk.injEq] at hy0
      exact this hy0.1
  rw [hl0] at hco
  have hyn : ys.length = (t.toks true).length := by
    have e1 := congrArg List.length hy
    have e2 := congrArg List.length hco
    simp only [List.length_map] at e1 e2
    omega
  have hsz : (⟨b.toArray⟩ : ByteArray).size = b.length := by simp [ByteArray.size]
  unfold readM
  rw [if_neg (by rw [hsz]; omega), hT]
  simp only
  generalize (⟨b.toArray⟩ : ByteArray).size = sz
  have hst : Stands (toksR ys sz) 0 (t.toks true) := by
    intro j z hz
    have hj : j < ys.length := by
      rw [hyn]
      rcases Nat.lt_or_ge j (t.toks true).length with h | h
      · exact h
      · rw [List.getElem?_eq_none h] at hz; cases hz
    have h1 : (toksR ys sz)[j]? = some (tokR ys[j]) := by
      unfold toksR
      rw [List.getElem?_append_left (by simpa using hj), List.getElem?_map, List.getElem?_eq_getElem hj]
      rfl
    have h2 : coreR (tokR ys[j]) = coreR z := by
      have e1 : (ys.map (·.1))[j]? = (ts.map (·.2))[j]? := by rw [hy]
      have e2 : (ts.map fun p => coreT p.2)[j]? = ((t.toks true).map coreR)[j]? := by rw [hco]
      rw [List.getElem?_map, List.getElem?_map] at e1 e2
      rw [List.getElem?_eq_getElem hj] at e1
      rw [hz] at e2
      cases hq : ts[j]? with
      | none => rw [hq] at e2; cases e2
      | some q =>
        rw [hq] at e1 e2
        simp only [Option.map_some, Option.some.injEq] at e1 e2
        rw [core_tokR, e1, e2]
    have h3 : tokAt (toksR ys sz) (0 + j) = tokR ys[j] := by
      unfold tokAt
      rw [Nat.zero_add, List.getD_eq_getElem?_getD, h1]
      rfl
    rw [h3]
    simp only [coreR, Prod.mk.injEq] at h2
    exact ⟨h2.1, ba_eq h2.2.1, h2.2.2⟩
  have hend := toksR_ends ys sz
  have hrun := runs_true t 0 0 hwell.1 hst (by have := hwell.2; omega) (plain_end _ (hend _ (by rw [hyn]; omega)))
  have hr := Runs.at_fuel hend hrun
  unfold readToks
  rw [hr]
  simp only
  rw [← hparts.1, hw]
  simp only
  rw [if_pos (hend _ (by omega))]

end Go.Proofs.YtefcmijobbgpbaaGreatDoor
