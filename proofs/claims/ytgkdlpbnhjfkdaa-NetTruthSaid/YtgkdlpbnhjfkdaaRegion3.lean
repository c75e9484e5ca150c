/- A statement whose order is open, with operations behind which another fact holds: one walk serves every order. -/
import Derived.Test.YtgkdlpbnhjfkdaaRegion
namespace Go.Proofs.Ytgkdlpbnhjfkdaa
open Go.RowKit

section
variable {P : Program} {ops : Array Oper} {Q : Exit → Act → World → Prop}

/-- As wpAnyS; behind an operation of 'sw' the class of worlds may be another one. -/
def wpAnyW (P : Program) (ops : Array Oper) (Q : Exit → Act → World → Prop) (fin sw : List Nat) : Nat → (World → Prop) → Array Bool → Act → World → Prop
  | 0, _, listed, a, w => Region.ready .any ops listed = [] ∧ Q .normal a w
  | fuel + 1, S, listed, a, w =>
    (Region.ready .any ops listed = [] → Q .normal a w) ∧
    ∀ i ∈ Region.ready .any ops listed, wpOp P ops Q i (fun a' w' => ∃ S' : World → Prop, (i ∉ sw → S' = S) ∧ Till S' fin (listed.setIfInBounds i true) w' ∧ wpAnyW P ops Q fin sw fuel S' (listed.setIfInBounds i true) a' w') a w

theorem wpAny_of_W {fin sw : List Nat} : ∀ (fuel : Nat) (S : World → Prop) (listed : Array Bool) (a : Act) (w : World), wpAnyW P ops Q fin sw fuel S listed a w → wpAny P .any ops Q fuel listed a w
  | 0, _, _, _, _, h => h
  | fuel + 1, _, _, _, _, h => ⟨h.1, fun i hi => wpOp_mono (fun a' w' ⟨S', _, _, h'⟩ => wpAny_of_W fuel S' _ a' w' h') (h.2 i hi)⟩

/-- A steady operation that is ready may be taken first. 'pure': it is steady in every world; else all of 'fin' wait for it. -/
theorem wpAnyW_first {fin sw : List Nat} {i : Nat} {oi : Oper} {v : Value} (hi : ops[i]? = some oi) (hsel : ∀ (j : Nat) (o : Oper) cs b, ops[j]? = some o → o.op ≠ .select cs b)
    (hQ : ∀ c a w, Q (.panic c) (a.put oi.dst v) w → Q (.panic c) a w) (hNF : i ∉ fin) (hNW : i ∉ sw) :
    ∀ (fuel : Nat) (S T : World → Prop) (listed : Array Bool) (_hT : (∀ w, T w) ∨ (T = S ∧ (∀ f ∈ fin, ∃ n, reaches ops n f i = true) ∧ ∀ f ∈ sw, listed.getD f false = true ∨ ∃ n, reaches ops n f i = true)) (a : Act) (w : World), Closed ops listed →
      (∀ j oj, ops[j]? = some oj → j ≠ i → listed.getD j true = false → (∀ e ∈ oj.after, Region.binds .any e = true → e.on ≠ i) → oi.apart ops oj = true) →
      i ∈ Region.ready .any ops listed → Steady P ops T oi v a → Till S fin listed w →
      wpAnyW P ops Q fin sw fuel S (listed.setIfInBounds i true) (a.put oi.dst v) w → wpAnyW P ops Q fin sw (fuel + 1) S listed a w := by
  have hTw : ∀ (S T : World → Prop) (listed : Array Bool) (_hT : (∀ w, T w) ∨ (T = S ∧ (∀ f ∈ fin, ∃ n, reaches ops n f i = true) ∧ ∀ f ∈ sw, listed.getD f false = true ∨ ∃ n, reaches ops n f i = true)) (w : World), Closed ops listed → i ∈ Region.ready .any ops listed → Till S fin listed w → T w := by
    intro S T listed hT w hcl hr ht
    rcases hT with h | ⟨rfl, h, _⟩
    · exact h w
    · refine ht fun f hf => ?_
      obtain ⟨n, hn⟩ := h f hf
      cases hl : listed.getD f false with
      | false => rfl
      | true =>
        have h1 := hcl.reaches n f i hn hl
        rw [getD_false_of_true (mem_ready.1 hr).1] at h1
        cases h1
  have hTill : ∀ (S : World → Prop) (listed : Array Bool) (w : World), Closed ops listed → i ∈ Region.ready .any ops listed → Till S fin listed w → Till S fin (listed.setIfInBounds i true) w := by
    intro S listed w hcl hr ht hx
    refine ht fun f hf => ?_
    have h0 := hx f hf
    cases hl : listed.getD f false with
    | false => rfl
    | true => rw [getD_set_true hl] at h0; cases h0
  intro fuel
  induction fuel with
  | zero =>
    intro S T listed hT a w hcl _ hr hy ht H
    refine ⟨fun h => (by rw [h] at hr; cases hr), fun j hj => ?_⟩
    by_cases hji : j = i
    · subst hji; exact hy.wpOp hi (hTw _ _ _ hT _ hcl hr ht) ⟨S, fun _ => rfl, hTill _ _ _ hcl hr ht, H⟩
    · have := ready_mono hj hji
      rw [H.1] at this
      cases this
  | succ fuel ih =>
    intro S T listed hT a w hcl hfree hr hy ht H
    refine ⟨fun h => (by rw [h] at hr; cases hr), fun j hj => ?_⟩
    by_cases hji : j = i
    · subst hji; exact hy.wpOp hi (hTw _ _ _ hT _ hcl hr ht) ⟨S, fun _ => rfl, hTill _ _ _ hcl hr ht, H⟩
    · have h1 := H.2 j (ready_mono hj hji)
      obtain ⟨hjun, oj, hoj, hall⟩ := mem_ready.1 hj
      have hnot : ∀ e ∈ oj.after, Region.binds .any e = true → e.on ≠ i := fun e he hb heq => by
        have h1 := hall e he hb
        rw [heq, getD_false_of_true (mem_ready.1 hr).1] at h1
        cases h1
      have h2 := wpOp_put_steady hoj (hfree j oj hoj hji hjun hnot) (fun cs b => hsel i oi cs b hi) (fun cs b => hsel j oj cs b hoj) hQ hy h1
      have hfree' : ∀ k ok, ops[k]? = some ok → k ≠ i → (listed.setIfInBounds j true).getD k true = false →
          (∀ e ∈ ok.after, Region.binds .any e = true → e.on ≠ i) → oi.apart ops ok = true := fun k ok hk hki hun hno => by
        refine hfree k ok hk hki ?_ hno
        by_cases hjk : j = k
        · subst hjk; exact hjun
        · rw [getD_set_ne true hjk] at hun; exact hun
      have hr' := ready_mono hr (Ne.symm hji)
      refine wpOp_mono (fun a' w' h3 => ?_) h2
      obtain ⟨h31, S', hS', h32, h33⟩ := h3
      have hT' : (∀ w, T w) ∨ (T = S' ∧ (∀ f ∈ fin, ∃ n, reaches ops n f i = true) ∧ ∀ f ∈ sw, (listed.setIfInBounds j true).getD f false = true ∨ ∃ n, reaches ops n f i = true) := by
        rcases hT with h | ⟨h, h1, h'⟩
        · exact .inl h
        · refine .inr ⟨?_, h1, fun f hf => (h' f hf).imp getD_set_true id⟩
          by_cases hjs : j ∈ sw
          · exfalso
            have hjr : ∃ n, reaches ops n j i = true := by
              rcases h' j hjs with h2 | h2
              · rw [getD_false_of_true (mem_ready.1 hj).1] at h2
                cases h2
              · exact h2
            obtain ⟨n, hn⟩ := hjr
            have hjl : j < listed.size := by
              rcases Nat.lt_or_ge j listed.size with h | h
              · exact h
              · rw [hcl.1] at h
                rw [Array.getElem?_eq_none h] at hoj
                cases hoj
            have h5 := (hcl.set hj).reaches n j i hn (getD_set_self hjl)
            rw [getD_set_ne false hji, getD_false_of_true (mem_ready.1 hr).1] at h5
            cases h5
          · rw [hS' hjs, h]
      have hc : (listed.setIfInBounds i true).setIfInBounds j true = (listed.setIfInBounds j true).setIfInBounds i true := (Array.setIfInBounds_comm _ _ hji).symm
      have hti : Till S' fin (listed.setIfInBounds j true) w' := by
        intro hx
        refine h32 fun f hf => ?_
        rw [hc]
        rw [getD_set_ne false (fun hif => hNF (by rw [hif]; exact hf))]
        exact hx f hf
      refine ⟨S', hS', hti, ih S' T (listed.setIfInBounds j true) hT' a' w' (hcl.set hj) hfree' hr' h31 hti ?_⟩
      rw [← hc]
      exact h33

def steadyW (ops : Array Oper) (fin sw : List Nat) (listed : Array Bool) (i : Nat) (pure : Bool) : Bool :=
  Region.free .any ops listed i && (Region.ready .any ops listed).contains i && !(fin ++ sw).contains i && (pure || (fin.all fun f => reaches ops ops.size f i) && sw.all fun f => listed.getD f false || reaches ops ops.size f i)

/-- As orderB; (i, 4): the one that is ready, of 'sw': behind it another fact holds. -/
def orderW (ops : Array Oper) (fin sw : List Nat) : List (Nat × Nat) → Array Bool → Bool
  | [], listed => (Region.ready .any ops listed).isEmpty
  | (i, k) :: r, listed =>
    (if k = 0 then steadyW ops fin sw listed i true else if k = 1 then steadyW ops fin sw listed i false else
      (Region.ready .any ops listed == [i]) && (k = 2 || (if k = 4 then sw.contains i else fin.any fun f => (listed.setIfInBounds i true).getD f false))) && orderW ops fin sw r (listed.setIfInBounds i true)

def wpD (P : Program) (ops : Array Oper) (Q : Exit → Act → World → Prop) : List (Nat × Nat) → (World → Prop) → Act → World → Prop
  | [], _, a, w => Q .normal a w
  | (i, k) :: r, S, a, w =>
    match ops[i]? with
    | none => False
    | some o =>
      if k = 0 then ∃ v, Steady P ops (fun _ => True) o v a ∧ wpD P ops Q r S (a.put o.dst v) w
      else if k = 1 then ∃ v, Steady P ops S o v a ∧ wpD P ops Q r S (a.put o.dst v) w
      else if k = 2 then wpOp P ops Q i (fun a' w' => S w' ∧ wpD P ops Q r S a' w') a w
      else if k = 4 then wpOp P ops Q i (fun a' w' => ∃ S' : World → Prop, S' w' ∧ wpD P ops Q r S' a' w') a w
      else wpOp P ops Q i (fun a' w' => wpD P ops Q r S a' w') a w

theorem wpD_sound {fin sw : List Nat} (hs : Region.noSelect ops = true) (hQ : ∀ c d v a w, Q (.panic c) (Act.put a d v) w → Q (.panic c) a w) :
    ∀ (order : List (Nat × Nat)) (S : World → Prop) (listed : Array Bool) (a : Act) (w : World) (fuel : Nat), orderW ops fin sw order listed = true → order.length ≤ fuel → Closed ops listed → Till S fin listed w →
      wpD P ops Q order S a w → wpAnyW P ops Q fin sw fuel S listed a w
  | [], S, listed, a, w, fuel, hB, _, _, _, h => by
    have hr : Region.ready .any ops listed = [] := by simpa [orderW] using hB
    cases fuel with
    | zero => exact ⟨hr, h⟩
    | succ n => exact ⟨fun _ => h, by rw [hr]; simp⟩
  | (i, k) :: r, S, listed, a, w, fuel, hB, hf, hcl, ht, h => by
    obtain ⟨fuel, rfl⟩ : ∃ n, fuel = n + 1 := ⟨fuel - 1, by simp at hf; omega⟩
    have hf' : r.length ≤ fuel := by simpa using hf
    simp only [orderW, Bool.and_eq_true] at hB
    obtain ⟨hB1, hB2⟩ := hB
    simp only [wpD] at h
    cases ho : ops[i]? with
    | none => simp [ho] at h
    | some o =>
      simp only [ho] at h
      have steady : ∀ (pure : Bool) (v : Value), steadyW ops fin sw listed i pure = true → Steady P ops (if pure then (fun _ => True) else S) o v a → wpD P ops Q r S (a.put o.dst v) w → wpAnyW P ops Q fin sw (fuel + 1) S listed a w := by
        intro pure v hst hy hw
        simp only [steadyW, Bool.and_eq_true, Bool.not_eq_true'] at hst
        obtain ⟨⟨⟨hfr, hrd⟩, hnf⟩, hp⟩ := hst
        have hrd' : i ∈ Region.ready .any ops listed := by simpa using hrd
        have hnf' : i ∉ fin ++ sw := by simpa using hnf
        refine wpAnyW_first ho (Region.noSelect_spec hs) (fun c a w => hQ c _ _ a w) (fun h => hnf' (List.mem_append_left _ h)) (fun h => hnf' (List.mem_append_right _ h)) fuel S _ listed ?_ a w hcl (Region.free_spec ho hfr) hrd' hy ht ?_
        · cases pure with
          | true => exact .inl fun _ => trivial
          | false =>
            simp only [Bool.false_or, Bool.and_eq_true, List.all_eq_true, Bool.or_eq_true] at hp
            exact .inr ⟨rfl, fun f hf => ⟨ops.size, hp.1 f hf⟩, fun f hf => (hp.2 f hf).imp id fun h => ⟨ops.size, h⟩⟩
        · refine wpD_sound hs hQ r _ _ _ _ fuel hB2 hf' (hcl.set hrd') ?_ hw
          intro hx
          refine ht fun f hf => ?_
          have h0 := hx f hf
          cases hl : listed.getD f false with
          | false => rfl
          | true => rw [getD_set_true hl] at h0; cases h0
      by_cases k0 : k = 0
      · simp only [k0, if_true] at h hB1
        obtain ⟨v, hy, hw⟩ := h
        exact steady true v hB1 hy hw
      · by_cases k1 : k = 1
        · subst k1
          simp only [Nat.one_ne_zero, if_false, if_true] at h hB1
          obtain ⟨v, hy, hw⟩ := h
          exact steady false v hB1 hy hw
        · simp only [k0, k1, if_false, Bool.and_eq_true, beq_iff_eq] at h hB1
          obtain ⟨hr, hk⟩ := hB1
          have hrd' : i ∈ Region.ready .any ops listed := by rw [hr]; simp
          refine ⟨fun h0 => (by rw [h0] at hr; cases hr), fun j hj => ?_⟩
          rw [hr] at hj
          have hji : j = i := by simpa using hj
          subst hji
          by_cases k2 : k = 2
          · simp only [k2, if_true] at h
            exact wpOp_mono (fun a' w' ⟨h1, h2⟩ => ⟨S, fun _ => rfl, fun _ => h1, wpD_sound hs hQ r _ _ _ _ fuel hB2 hf' (hcl.set hrd') (fun _ => h1) h2⟩) h
          · by_cases k4 : k = 4
            · subst k4
              have hsw : j ∈ sw := by
                simp only [k2, decide_false, Bool.false_or, if_true] at hk
                simpa using hk
              simp only [k2, if_false, if_true] at h
              exact wpOp_mono (fun a' w' ⟨S', h1, h2⟩ => ⟨S', fun hn => absurd hsw hn, fun _ => h1, wpD_sound hs hQ r _ _ _ _ fuel hB2 hf' (hcl.set hrd') (fun _ => h1) h2⟩) h
            · simp only [k2, k4, if_false] at h
              simp only [k2, k4, decide_false, Bool.false_or, if_false] at hk
              obtain ⟨f, hfm, hff⟩ := List.any_eq_true.1 hk
              have htill : ∀ w', Till S fin (listed.setIfInBounds j true) w' := fun w' hx => by
                have := hx f hfm
                rw [hff] at this
                cases this
              exact wpOp_mono (fun a' w' h2 => ⟨S, fun _ => rfl, htill w', wpD_sound hs hQ r _ _ _ _ fuel hB2 hf' (hcl.set hrd') (htill w') h2⟩) h

/-- THE LAW: a region that draws, walked in one order; behind each of 'sw' another fact may be named. -/
theorem wp_region_switch {id : Nat} {a : Act} {w : World} (S : World → Prop) (fin sw : List Nat) (order : List (Nat × Nat)) (hm : P.follows .mixedOrders = true)
    (hB : (Region.noSelect ops && orderW ops fin sw order (Array.replicate ops.size false) && decide (order.length ≤ ops.size)) = true)
    (hQ : ∀ c d v a w, Q (.panic c) (Act.put a d v) w → Q (.panic c) a w) (hS : S w.drew) (h : wpD P ops Q order S a w.drew) : (Code.region id ops true).wp P Q a w := by
  simp only [Bool.and_eq_true, decide_eq_true_eq] at hB
  refine wp_region_any hm (wpAny_of_W (fin := fin) (sw := sw) _ S _ _ _ ?_)
  refine wpD_sound hB.1.1 hQ order _ _ _ _ _ hB.1.2 hB.2 ⟨by simp, fun j o hj hl => ?_⟩ (fun _ => hS) h
  exfalso
  rcases Nat.lt_or_ge j ops.size with hlt | hge
  · simp [hlt] at hl
  · rw [Array.getElem?_eq_none hge] at hj; cases hj

theorem wpD_nil {S : World → Prop} {a : Act} {w : World} (h : Q .normal a w) : wpD P ops Q [] S a w := h

theorem wpD_pure {S : World → Prop} {i : Nat} {r : List (Nat × Nat)} {o : Oper} {v : Value} {a : Act} {w : World} (ho : ops[i]? = some o) (hw : Region.wanted o (yielded ops a.tmps) = true)
    (hv : ∀ w, (execOp a.eval o).run P w = .ok (.value v) w) (h : wpD P ops Q r S (a.put o.dst v) w) : wpD P ops Q ((i, 0) :: r) S a w := by
  simp only [wpD, ho, if_true]; exact ⟨v, .inl ⟨hw, fun w _ => hv w⟩, h⟩

theorem wpD_held {S : World → Prop} {i : Nat} {r : List (Nat × Nat)} {o : Oper} {v : Value} {a : Act} {w : World} (ho : ops[i]? = some o) (hw : Region.wanted o (yielded ops a.tmps) = true)
    (hv : ∀ w, S w → (execOp a.eval o).run P w = .ok (.value v) w) (h : wpD P ops Q r S (a.put o.dst v) w) : wpD P ops Q ((i, 1) :: r) S a w := by
  simp only [wpD, ho, Nat.one_ne_zero, if_false, if_true]; exact ⟨v, .inl ⟨hw, hv⟩, h⟩

/-- An operation whose guard says no. -/
theorem wpD_pass {S : World → Prop} {i k : Nat} {r : List (Nat × Nat)} {o : Oper} {a : Act} {w : World} (ho : ops[i]? = some o) (hw : Region.wanted o (yielded ops a.tmps) = false) (hk : k = 0 ∨ k = 1 ∨ k = 3)
    (h : wpD P ops Q r S (a.put o.dst undef) w) : wpD P ops Q ((i, k) :: r) S a w := by
  simp only [wpD, ho]
  rcases hk with rfl | rfl | rfl
  · simp only [if_true]; exact ⟨undef, .inr ⟨hw, rfl⟩, h⟩
  · simp only [Nat.one_ne_zero, if_false, if_true]; exact ⟨undef, .inr ⟨hw, rfl⟩, h⟩
  · simp [wpOp, ho, hw]; exact h

theorem wpD_step {S : World → Prop} {i : Nat} {r : List (Nat × Nat)} {o : Oper} {a : Act} {w : World} (ho : ops[i]? = some o) (hw : Region.wanted o (yielded ops a.tmps) = true)
    (h : ∀ K : Act → World → Prop, (∀ a' w', S w' → wpD P ops Q r S a' w' → K a' w') → Oper.wp P o a w K Q) : wpD P ops Q ((i, 2) :: r) S a w := by
  simp only [wpD, ho]
  simp only [wpOp, ho, hw, if_true]
  exact .inl (h _ fun a' w' h1 h2 => ⟨h1, h2⟩)

theorem wpD_last {S : World → Prop} {i : Nat} {r : List (Nat × Nat)} {o : Oper} {a : Act} {w : World} (ho : ops[i]? = some o) (hw : Region.wanted o (yielded ops a.tmps) = true)
    (h : ∀ K : Act → World → Prop, (∀ a' w', wpD P ops Q r S a' w' → K a' w') → Oper.wp P o a w K Q) : wpD P ops Q ((i, 3) :: r) S a w := by
  simp only [wpD, ho]
  simp only [wpOp, ho, hw, if_true]
  exact .inl (h _ fun a' w' h2 => h2)

theorem wpD_switch {S : World → Prop} {i : Nat} {r : List (Nat × Nat)} {o : Oper} {a : Act} {w : World} (ho : ops[i]? = some o) (hw : Region.wanted o (yielded ops a.tmps) = true)
    (h : ∀ K : Act → World → Prop, (∀ a' w' (S' : World → Prop), S' w' → wpD P ops Q r S' a' w' → K a' w') → Oper.wp P o a w K Q) : wpD P ops Q ((i, 4) :: r) S a w := by
  simp only [wpD, ho]
  simp only [wpOp, ho, hw, if_true]
  exact .inl (h _ fun a' w' S' h1 h2 => ⟨S', h1, h2⟩)

end
end Go.Proofs.Ytgkdlpbnhjfkdaa
