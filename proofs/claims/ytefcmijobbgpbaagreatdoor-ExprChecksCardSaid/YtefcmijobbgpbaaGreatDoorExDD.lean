/- What is read can be written, plainly. -/
import Derived.Test.YtefcmijobbgpbaaGreatDoorExCC
namespace Go.Proofs.YtefcmijobbgpbaaGreatDoor

theorem join_single_inv {x : TokR} {b : List UInt8} (hk : x.kind ≠ 0) (h : joinM [x] = .ok b) : (wtn x).isSome = true := by
  unfold joinM at h
  simp only [List.getLast?_singleton] at h
  rw [if_neg hk] at h
  unfold joinCore at h
  split at h
  · cases h
  · split at h
    · cases h
    · rename_i ws hw
      simp only [wrAll] at hw
      cases hx : wtn x with
      | none => rw [hx] at hw; cases hw
      | some a => rfl

theorem text_wtn {s : ByteArray} (h : textM s = true) : (wtn ⟨3, s, 0, 0⟩).isSome = true := by
  unfold textM at h
  split at h
  · rename_i b hb
    exact join_single_inv (by simp) hb
  · cases h

theorem stage_wtn {s : ByteArray} (h : stageM s = true) : (wtn (wordT s)).isSome = true := by
  unfold stageM at h
  simp only [Bool.and_eq_true, decide_eq_true_eq] at h
  obtain ⟨⟨⟨⟨⟨h1, _⟩, _⟩, _⟩, _⟩, _⟩ := h
  split at h1
  · rename_i t a ht
    simp only [Bool.and_eq_true, decide_eq_true_eq] at h1
    unfold toksOf at ht
    obtain ⟨ts, e1, e2, _⟩ := lexAll_words (by simp) ht
    have hm : t ∈ ts.map (·.2) := by rw [← e1]; simp
    obtain ⟨p, hp, he⟩ := List.mem_map.1 hm
    have hw := (e2 p hp).2
    rw [he] at hw
    have hn : (t.n : Int) = 0 := by
      by_cases h0 : (t.n : Int) = 0
      · exact h0
      · rw [no_num (by rw [h1.1]; decide) h0] at hw; cases hw
    unfold wtn wordT
    simp only
    rw [← h1.2, ← hn]
    have hk : ((1 : Int)) = (t.kind : Int) := by rw [h1.1]; rfl
    rw [hk, hw]
    rfl
  · cases h1

theorem fw0 : (wtn (wordT (fieldWord 0))).isSome = true := by kernel_rfl
theorem fw1 : (wtn (wordT (fieldWord 1))).isSome = true := by kernel_rfl
theorem fw2 : (wtn (wordT (fieldWord 2))).isSome = true := by kernel_rfl
theorem fw3 : (wtn (wordT (fieldWord 3))).isSome = true := by kernel_rfl
theorem fw4 : (wtn (wordT (fieldWord 4))).isSome = true := by kernel_rfl
theorem fw5 : (wtn (wordT (fieldWord 5))).isSome = true := by kernel_rfl
theorem field_wtn {f : Int} (h0 : 0 ≤ f) (h5 : f ≤ 5) : (wtn (wordT (fieldWord f))).isSome = true := by
  have : f = 0 ∨ f = 1 ∨ f = 2 ∨ f = 3 ∨ f = 4 ∨ f = 5 := by omega
  rcases this with rfl | rfl | rfl | rfl | rfl | rfl
  · exact fw0
  · exact fw1
  · exact fw2
  · exact fw3
  · exact fw4
  · exact fw5

theorem open_wtn : (wtn (signT bOpen)).isSome = true := by kernel_rfl
theorem shut_wtn : (wtn (signT bShut)).isSome = true := by kernel_rfl
theorem dot_wtn : (wtn (signT bDot)).isSome = true := by kernel_rfl
theorem not_wtn : (wtn (wordT bNot)).isSome = true := by kernel_rfl
theorem mw4 : (wtn (midT 4)).isSome = true := by kernel_rfl
theorem mw5 : (wtn (midT 5)).isSome = true := by kernel_rfl
theorem mw6 : (wtn (midT 6)).isSome = true := by kernel_rfl
theorem mw7 : (wtn (midT 7)).isSome = true := by kernel_rfl
theorem mw8 : (wtn (midT 8)).isSome = true := by kernel_rfl
theorem mw9 : (wtn (midT 9)).isSome = true := by kernel_rfl
theorem mw10 : (wtn (midT 10)).isSome = true := by kernel_rfl
theorem mw11 : (wtn (midT 11)).isSome = true := by kernel_rfl
theorem mw12 : (wtn (midT 12)).isSome = true := by kernel_rfl
theorem mid_wtn {k : Int} (h : 4 ≤ k ∧ k ≤ 12) : (wtn (midT k)).isSome = true := by
  rcases op_cases h with rfl | rfl | rfl | rfl | rfl | rfl | rfl | rfl | rfl
  · exact mw4
  · exact mw5
  · exact mw6
  · exact mw7
  · exact mw8
  · exact mw9
  · exact mw10
  · exact mw11
  · exact mw12

/-- A number that can be written. -/
def NumW (p : PartR) : Prop := p.kind = 1 → (wtn ⟨2, ⟨#[]⟩, p.n, 0⟩).isSome = true

theorem leaf_wtn {p : PartR} (hm : isM p = true) (h3 : p.kind ≤ 3) (hn : NumW p) : ∀ x ∈ leafToks p, (wtn x).isSome = true := by
  have hr := isM_range hm
  intro x hx
  unfold leafToks at hx
  by_cases h1 : p.kind = 1
  · rw [if_pos h1] at hx
    simp only [List.mem_singleton] at hx
    subst hx
    exact hn h1
  · by_cases h2 : p.kind = 2
    · rw [if_neg h1, if_pos h2] at hx
      simp only [List.mem_singleton] at hx
      subst hx
      exact text_wtn (isM_text hm h2).2
    · rw [if_neg h1, if_neg h2] at hx
      obtain ⟨f0, f5, hst⟩ := isM_field hm (by omega)
      by_cases he : p.stage.data.toList = []
      · rw [if_pos he] at hx
        simp only [List.mem_singleton] at hx
        subst hx
        exact field_wtn f0 f5
      · rw [if_neg he] at hx
        simp only [List.mem_cons, List.not_mem_nil, or_false] at hx
        rcases hx with rfl | rfl | rfl
        · exact stage_wtn (hst.resolve_left he)
        · exact dot_wtn
        · exact field_wtn f0 f5

theorem toks_wtn : ∀ (t : Ex) (o : Bool), t.well → (∀ p ∈ t.parts, NumW p) → ∀ x ∈ t.toks o, (wtn x).isSome = true
  | .leaf p, o, hw, hn, x, hx => leaf_wtn hw.1 hw.2 (hn p (by simp [Ex.parts])) x hx
  | .neg p a, o, hw, hn, x, hx => by
    have ha := toks_wtn a false hw.2.2 (fun q hq => hn q (by simp [Ex.parts, hq]))
    cases o
    · simp only [Ex.toks, fenced, Bool.false_eq_true, if_false, List.mem_cons, List.mem_append, List.not_mem_nil, or_false] at hx
      rcases hx with rfl | (rfl | hx) | rfl
      · exact open_wtn
      · exact not_wtn
      · exact ha x hx
      · exact shut_wtn
    · simp only [Ex.toks, fenced, if_true, List.mem_cons] at hx
      rcases hx with rfl | hx
      · exact not_wtn
      · exact ha x hx
  | .bin p a b, o, hw, hn, x, hx => by
    have ha := toks_wtn a false hw.2.2.1 (fun q hq => hn q (by simp [Ex.parts, hq]))
    have hb := toks_wtn b false hw.2.2.2 (fun q hq => hn q (by simp [Ex.parts, hq]))
    cases o
    · simp only [Ex.toks, fenced, Bool.false_eq_true, if_false, List.mem_cons, List.mem_append, List.not_mem_nil, or_false] at hx
      rcases hx with rfl | (hx | rfl | hx) | rfl
      · exact open_wtn
      · exact ha x hx
      · exact mid_wtn hw.2.1
      · exact hb x hx
      · exact shut_wtn
    · simp only [Ex.toks, fenced, if_true, List.mem_cons, List.mem_append] at hx
      rcases hx with hx | rfl | hx
      · exact ha x hx
      · exact mid_wtn hw.2.1
      · exact hb x hx

theorem wrAll_each : ∀ (l : List TokR), (∀ x ∈ l, (wtn x).isSome = true) → ∃ ws, wrAll l = some ws ∧ longOf ws ≤ 301 * l.length ∧ ws.length = l.length
  | [], _ => ⟨[], rfl, by simp [longOf], rfl⟩
  | x :: l, h => by
    obtain ⟨ws, h1, h2, h3⟩ := wrAll_each l (fun y hy => h y (by simp [hy]))
    obtain ⟨a, ha⟩ := Option.isSome_iff_exists.1 (h x (by simp))
    have hl := wtn_len ha
    refine ⟨a :: ws, by simp only [wrAll, ha, h1], ?_, by simp [h3]⟩
    simp only [longOf, List.map_cons, List.sum_cons, List.length_cons] at h2 ⊢
    omega

theorem toks_pos (t : Ex) (o : Bool) : 1 ≤ (t.toks o).length := by
  cases t with
  | leaf p => exact (leafToks_len p).2
  | neg p a => cases o <;> simp [Ex.toks, fenced]
  | bin p a b => cases o <;> simp [Ex.toks, fenced] <;> omega

theorem join_written {t : Ex} (hw : t.well) (hl : t.parts.length ≤ 200) (hn : ∀ p ∈ t.parts, NumW p) : ∃ b, joinM (t.toks true) = .ok b := by
  obtain ⟨ws, h1, h2, h3⟩ := wrAll_each _ (toks_wtn t true hw hn)
  have hlen := toks_len t true
  have hpos := toks_pos t true
  have hws : ws ≠ [] := fun e => by rw [e] at h3; simp at h3; omega
  have hj := joinW_length ws hws
  refine ⟨joinW ws, ?_⟩
  unfold joinM
  cases hg : (t.toks true).getLast? with
  | none =>
    simp only
    rw [core_all (by omega) h1, if_neg (by omega)]
  | some x =>
    simp only
    have hk := toks_kind t true hw x (List.mem_of_getLast? hg)
    rw [if_neg hk, core_all (by omega) h1, if_neg (by omega)]

theorem toks_num {s : ByteArray} {xs : List (Tok × Nat)} (h : toksOf s = .ok xs) (sz : Nat) : ∀ k, (tokAt (toksR xs sz) k).kind = 2 → (wtn ⟨2, ⟨#[]⟩, (tokAt (toksR xs sz) k).n, 0⟩).isSome = true := by
  intro k hk
  have hkl : k < xs.length := by
    rcases Nat.lt_or_ge k xs.length with h1 | h1
    · exact h1
    · rw [toksR_ends xs sz k h1] at hk; cases hk
  obtain ⟨q, hq, he⟩ := tokAt_toksR (sz := sz) hkl
  rw [he] at hk ⊢
  unfold toksOf at h
  obtain ⟨ts, e1, e2, _⟩ := lexAll_words (by simp) h
  have hm : q.1 ∈ ts.map (·.2) := by rw [← e1]; exact List.mem_map.2 ⟨q, hq, rfl⟩
  obtain ⟨p, hp, he2⟩ := List.mem_map.1 hm
  have hw := (e2 p hp).2
  rw [he2] at hw
  simp only [tokR] at hk ⊢
  rw [hk] at hw
  have hs : q.1.s = [] := by
    by_cases h0 : q.1.s = []
    · exact h0
    · rw [no_text h0] at hw; cases hw
  rw [hs] at hw
  unfold wtn
  simp only
  rw [hw]
  rfl

/-- What is read can be written. -/
theorem read_write {s : ByteArray} {y : List PartR} (h : readM s = .ok y) : ∃ t b, wholeM y = some t ∧ joinM (t.toks true) = .ok b := by
  unfold readM at h
  split at h
  · cases h
  · split at h
    · cases h
    · rename_i xs hT
      unfold readToks at h
      split at h
      · cases h
      · rename_i x k' hr
        split at h
        · cases h
        · rename_i t hw
          split at h
          · cases h
            have hwell := growM_well (wholeM_grow hw)
            have hp := wholeM_parts hw
            have hnum : ∀ p ∈ y, NumW p := runM_all (P := NumW) (fun k hk _ => toks_num hT s.size k hk) (fun k _ h1 => by simp [textP] at h1) (fun f h1 => by simp [fieldP] at h1) (fun k f h1 => by simp [fieldP] at h1) (fun c h1 => by
              simp only [opP] at h1
              subst h1
              kernel_rfl) _ none 0 0 0 hr (fun y h => by cases h)
            obtain ⟨b, hb⟩ := join_written hwell.1 (by rw [← hp.1]; exact hp.2) (by rw [← hp.1]; exact hnum)
            exact ⟨t, b, hw, hb⟩
          · cases h

end Go.Proofs.YtefcmijobbgpbaaGreatDoor
