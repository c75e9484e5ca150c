/- A statement whose order is open, whose operations that touch memory stand in a chain: one walk serves every order. -/
import Derived.Test.YtfoeadiejcheiaaDoorBase
namespace Go.Proofs.YtfoeadiejcheiaaDoor
open Go.RowKit

section
variable {P : Program} {ops : Array Oper} {Q : Exit → Act → World → Prop}

/-- The class of worlds: S, till one of 'fin' is done. -/
def Till (S : World → Prop) (fin : List Nat) (listed : Array Bool) (w : World) : Prop := (∀ f ∈ fin, listed.getD f false = false) → S w

def wpAnyS (P : Program) (ops : Array Oper) (Q : Exit → Act → World → Prop) (S : World → Prop) (fin : List Nat) : Nat → Array Bool → Act → World → Prop
  | 0, listed, a, w => Region.ready .any ops listed = [] ∧ Q .normal a w
  | fuel + 1, listed, a, w =>
    (Region.ready .any ops listed = [] → Q .normal a w) ∧
    ∀ i ∈ Region.ready .any ops listed, wpOp P ops Q i (fun a' w' => Till S fin (listed.setIfInBounds i true) w' ∧ wpAnyS P ops Q S fin fuel (listed.setIfInBounds i true) a' w') a w

theorem wpAny_of_S {S : World → Prop} {fin : List Nat} : ∀ (fuel : Nat) (listed : Array Bool) (a : Act) (w : World), wpAnyS P ops Q S fin fuel listed a w → wpAny P .any ops Q fuel listed a w
  | 0, _, _, _, h => h
  | fuel + 1, _, _, _, h => ⟨h.1, fun i hi => wpOp_mono (fun a' w' h' => wpAny_of_S fuel _ a' w' h'.2) (h.2 i hi)⟩

/-- One value, in every world of S (or: the operation is passed over). -/
def Steady (P : Program) (ops : Array Oper) (S : World → Prop) (o : Oper) (v : Value) (a : Act) : Prop :=
  (Region.wanted o (yielded ops a.tmps) = true ∧ ∀ w, S w → (execOp a.eval o).run P w = .ok (.value v) w) ∨
  (Region.wanted o (yielded ops a.tmps) = false ∧ v = undef)

theorem Steady.of_same {S : World → Prop} {o : Oper} {v : Value} {a a' : Act} (hy : Steady P ops S o v a) (he : execOp a'.eval o = execOp a.eval o)
    (hw : Region.wanted o (yielded ops a'.tmps) = Region.wanted o (yielded ops a.tmps)) : Steady P ops S o v a' := by
  unfold Steady at *
  rw [he, hw]
  exact hy

theorem Steady.wpOp {S : World → Prop} {i : Nat} {o : Oper} {v : Value} {a : Act} {w : World} (hi : ops[i]? = some o) (hy : Steady P ops S o v a) (hS : S w)
    {K : Act → World → Prop} (h : K (a.put o.dst v) w) : wpOp P ops Q i K a w := by
  unfold Go.wpOp
  simp only [hi]
  rcases hy with ⟨hw, hv⟩ | ⟨hw, rfl⟩
  · simp only [hw, if_true, Oper.wp, hv w hS, Oper.upon]; exact .inl h
  · simp only [hw, Bool.false_eq_true, if_false]; exact h

/-- An operation 'oj' apart from the steady 'oi': whether the value of 'oi' lies there already makes no difference to it, and it makes none to 'oi'. -/
theorem wpOp_put_steady {S : World → Prop} {j : Nat} {oi oj : Oper} {v : Value} (hj : ops[j]? = some oj) (hap : oi.apart ops oj = true)
    (hsi : ∀ cs b, oi.op ≠ .select cs b) (hsj : ∀ cs b, oj.op ≠ .select cs b)
    (hQ : ∀ c a w, Q (.panic c) (a.put oi.dst v) w → Q (.panic c) a w) {K : Act → World → Prop} {a : Act} {w : World}
    (hy : Steady P ops S oi v a) (h : wpOp P ops Q j K (a.put oi.dst v) w) :
    wpOp P ops Q j (fun a' w' => Steady P ops S oi v a' ∧ K (a'.put oi.dst v) w') a w := by
  obtain ⟨h1, h2, h3⟩ := Oper.apart_spec hap
  have keep : ∀ (a : Act), Steady P ops S oi v a → ∀ u, Steady P ops S oi v (a.put oj.dst u) := fun a hy u =>
    hy.of_same (execOp_put oi hsi a oj.dst u h3) (wanted_put oi a oj.dst u h3)
  have keepD : ∀ d, Steady P ops S oi v { a with defers := d :: a.defers } := fun d => hy.of_same rfl rfl
  unfold Go.wpOp at *
  simp only [hj] at *
  rw [wanted_put oj a oi.dst v h1] at h
  split
  · rename_i hw
    simp only [hw, if_true] at h
    rcases h with h | ⟨hasks, hlets⟩
    case inr => exact .inr ⟨by unfold Oper.asks at *; rw [execOp_put oj hsj a oi.dst v h1] at hasks; exact hasks, hlets⟩
    refine .inl ?_
    unfold Oper.wp at *
    rw [execOp_put oj hsj a oi.dst v h1] at h
    generalize (execOp a.eval oj).run P w = r at *
    cases r with
    | ok n w' =>
      cases n <;> simp only [Oper.upon] at h ⊢
      case value u => exact ⟨keep a hy u, by rw [← Act.put_comm a v u h2]; exact h⟩
      case skip => exact ⟨keep a hy _, by rw [← Act.put_comm a v undef h2]; exact h⟩
      case defer d =>
        refine ⟨keep _ (keepD d) _, ?_⟩
        rw [← Act.put_comm _ v undef h2, ← Act.put_defers]
        exact h
      case enter f args =>
        refine Calls.mono h fun e w'' he => ?_
        cases e with
        | returned u => exact ⟨keep a hy u, by rw [← Act.put_comm a v u h2]; exact he⟩
        | panicked c => exact hQ _ _ _ he
        | outgrown => exact he
      case row row args => exact Rows.mono h fun u w'' he => ⟨keep a hy u, by rw [← Act.put_comm a v u h2]; exact he⟩
    | halt x w' =>
      cases x <;> simp only [Oper.upon] at h ⊢
      case panic u => exact hQ _ _ _ h
  · rename_i hw
    simp only [hw] at h
    exact ⟨keep a hy _, by rw [← Act.put_comm a v undef h2]; exact h⟩

/-- What is done is closed: whoever is done, all that it waits for is done. -/
def Closed (ops : Array Oper) (listed : Array Bool) : Prop := listed.size = ops.size ∧ ∀ (j : Nat) (o : Oper), ops[j]? = some o → listed.getD j false = true → ∀ e ∈ o.after, Region.binds .any e = true → listed.getD e.on false = true

theorem getD_false_of_true {listed : Array Bool} {i : Nat} (h : listed.getD i true = false) : listed.getD i false = false := by
  rcases Nat.lt_or_ge i listed.size with h' | h'
  · simp [h'] at h ⊢; exact h
  · simp [Array.getElem?_eq_none h'] at h

theorem getD_set_self {listed : Array Bool} {i : Nat} (h : i < listed.size) : (listed.setIfInBounds i true).getD i false = true := by simp [h]

theorem Closed.set {listed : Array Bool} {i : Nat} (h : Closed ops listed) (hr : i ∈ Region.ready .any ops listed) : Closed ops (listed.setIfInBounds i true) := by
  refine ⟨by simpa using h.1, fun j o hj hl e he hb => ?_⟩
  by_cases hij : i = j
  · subst hij
    obtain ⟨_, oi, hoi, hall⟩ := mem_ready.1 hr
    rw [hoi] at hj
    cases hj
    exact getD_set_true (hall e he hb)
  · rw [getD_set_ne false hij] at hl
    exact getD_set_true (h.2 j o hj hl e he hb)

/-- 'f' waits for 'i', maybe through others. -/
def reaches (ops : Array Oper) : Nat → Nat → Nat → Bool
  | 0, _, _ => false
  | n + 1, f, i => match ops[f]? with
    | some o => o.after.any fun e => Region.binds .any e && (e.on == i || reaches ops n e.on i)
    | none => false

theorem Closed.reaches {listed : Array Bool} (h : Closed ops listed) : ∀ (n f i : Nat), reaches ops n f i = true → listed.getD f false = true → listed.getD i false = true := by
  intro n
  induction n with
  | zero => intro f i hr; simp [Go.Proofs.YtfoeadiejcheiaaDoor.reaches] at hr
  | succ n ih =>
    intro f i hr hf
    simp only [Go.Proofs.YtfoeadiejcheiaaDoor.reaches] at hr
    cases ho : ops[f]? with
    | none => simp [ho] at hr
    | some o =>
      simp only [ho] at hr
      obtain ⟨e, he, hb⟩ := Array.any_eq_true'.1 hr
      simp only [Bool.and_eq_true, Bool.or_eq_true, beq_iff_eq] at hb
      have h1 := h.2 f o ho hf e he hb.1
      rcases hb.2 with h2 | h2
      · exact h2 ▸ h1
      · exact ih e.on i h2 h1

/-- A steady operation that is ready may be taken first. 'pure': it is steady in every world; else all of 'fin' wait for it. -/
theorem wpAnyS_first {S : World → Prop} {fin : List Nat} {i : Nat} {oi : Oper} {v : Value} (hi : ops[i]? = some oi) (hsel : ∀ (j : Nat) (o : Oper) cs b, ops[j]? = some o → o.op ≠ .select cs b)
    (hQ : ∀ c a w, Q (.panic c) (a.put oi.dst v) w → Q (.panic c) a w) (hNF : i ∉ fin) (T : World → Prop) (hT : (∀ w, T w) ∨ (T = S ∧ ∀ f ∈ fin, ∃ n, reaches ops n f i = true)) :
    ∀ (fuel : Nat) (listed : Array Bool) (a : Act) (w : World), Closed ops listed →
      (∀ j oj, ops[j]? = some oj → j ≠ i → listed.getD j true = false → (∀ e ∈ oj.after, Region.binds .any e = true → e.on ≠ i) → oi.apart ops oj = true) →
      i ∈ Region.ready .any ops listed → Steady P ops T oi v a → Till S fin listed w →
      wpAnyS P ops Q S fin fuel (listed.setIfInBounds i true) (a.put oi.dst v) w → wpAnyS P ops Q S fin (fuel + 1) listed a w := by
  have hTw : ∀ (listed : Array Bool) (w : World), Closed ops listed → i ∈ Region.ready .any ops listed → Till S fin listed w → T w := by
    intro listed w hcl hr ht
    rcases hT with h | ⟨rfl, h⟩
    · exact h w
    · refine ht fun f hf => ?_
      obtain ⟨n, hn⟩ := h f hf
      cases hl : listed.getD f false with
      | false => rfl
      | true =>
        have h1 := hcl.reaches n f i hn hl
        rw [getD_false_of_true (mem_ready.1 hr).1] at h1
        cases h1
  have hTill : ∀ (listed : Array Bool) (w : World), Closed ops listed → i ∈ Region.ready .any ops listed → Till S fin listed w → Till S fin (listed.setIfInBounds i true) w := by
    intro listed w hcl hr ht hx
    refine ht fun f hf => ?_
    have h0 := hx f hf
    cases hl : listed.getD f false with
    | false => rfl
    | true => rw [getD_set_true hl] at h0; cases h0
  intro fuel
  induction fuel with
  | zero =>
    intro listed a w hcl _ hr hy ht H
    refine ⟨fun h => (by rw [h] at hr; cases hr), fun j hj => ?_⟩
    by_cases hji : j = i
    · subst hji; exact hy.wpOp hi (hTw _ _ hcl hr ht) ⟨hTill _ _ hcl hr ht, H⟩
    · have := ready_mono hj hji
      rw [H.1] at this
      cases this
  | succ fuel ih =>
    intro listed a w hcl hfree hr hy ht H
    refine ⟨fun h => (by rw [h] at hr; cases hr), fun j hj => ?_⟩
    by_cases hji : j = i
    · subst hji; exact hy.wpOp hi (hTw _ _ hcl hr ht) ⟨hTill _ _ hcl hr ht, H⟩
    · have h1 := H.2 j (ready_mono hj hji)
      obtain ⟨hjun, oj, hoj, hall⟩ := mem_ready.1 hj
      have hnot : ∀ e ∈ oj.after, Region.binds .any e = true → e.on ≠ i := fun e he hb heq => by
        have h1 := hall e he hb
        rw [heq, getD_false_of_true (mem_ready.1 hr).1] at h1
        cases h1
      have h2 := wpOp_put_steady hoj (hfree j oj hoj hji hjun hnot) (fun cs b => hsel i oi cs b hi) (fun cs b => hsel j oj cs b hoj) hQ hy h1
      have hfree' : ∀ k ok, ops[k]? = some ok → k ≠ i → (listed.setIfInBounds j true).getD k true = false →
          (∀ e ∈ ok.after, Region.binds .any e = true → e.on ≠ i) → oi.apart ops ok = true := fun k ok hk hki hun hno => by
        refine hfree k ok hk hki ?_ hno
        by_cases hjk : j = k
        · subst hjk; exact hjun
        · rw [getD_set_ne true hjk] at hun; exact hun
      have hr' := ready_mono hr (Ne.symm hji)
      refine wpOp_mono (fun a' w' h3 => ?_) h2
      have hc : (listed.setIfInBounds i true).setIfInBounds j true = (listed.setIfInBounds j true).setIfInBounds i true := (Array.setIfInBounds_comm _ _ hji).symm
      have hti : Till S fin (listed.setIfInBounds j true) w' := by
        intro hx
        refine h3.2.1 fun f hf => ?_
        rw [hc]
        rw [getD_set_ne false (fun hif => hNF (by rw [hif]; exact hf))]
        exact hx f hf
      refine ⟨hti, ih (listed.setIfInBounds j true) a' w' (hcl.set hj) hfree' hr' h3.1 hti ?_⟩
      rw [← hc]
      exact h3.2.2

/-- Is operation i steady at this point: ready, apart from all that do not wait for it, and (unless it is steady in every world) waited for by all of 'fin'? -/
def steadyB (ops : Array Oper) (fin : List Nat) (listed : Array Bool) (i : Nat) (pure : Bool) : Bool :=
  Region.free .any ops listed i && (Region.ready .any ops listed).contains i && !fin.contains i && (pure || fin.all fun f => reaches ops ops.size f i)

/-- The whole order at once: (i, 0): steady in every world; (i, 1): steady in the worlds of S; (i, 2): the one that is ready, behind it S holds; (i, 3): the same, one of 'fin' is done. -/
def orderB (ops : Array Oper) (fin : List Nat) : List (Nat × Nat) → Array Bool → Bool
  | [], listed => (Region.ready .any ops listed).isEmpty
  | (i, k) :: r, listed =>
    (if k = 0 then steadyB ops fin listed i true else if k = 1 then steadyB ops fin listed i false else
      (Region.ready .any ops listed == [i]) && (k = 2 || fin.any fun f => (listed.setIfInBounds i true).getD f false)) && orderB ops fin r (listed.setIfInBounds i true)

def wpC (P : Program) (ops : Array Oper) (Q : Exit → Act → World → Prop) (S : World → Prop) : List (Nat × Nat) → Act → World → Prop
  | [], a, w => Q .normal a w
  | (i, k) :: r, a, w =>
    match ops[i]? with
    | none => False
    | some o =>
      if k = 0 then ∃ v, Steady P ops (fun _ => True) o v a ∧ wpC P ops Q S r (a.put o.dst v) w
      else if k = 1 then ∃ v, Steady P ops S o v a ∧ wpC P ops Q S r (a.put o.dst v) w
      else if k = 2 then wpOp P ops Q i (fun a' w' => S w' ∧ wpC P ops Q S r a' w') a w
      else wpOp P ops Q i (fun a' w' => wpC P ops Q S r a' w') a w

theorem wpC_sound {S : World → Prop} {fin : List Nat} (hs : Region.noSelect ops = true) (hQ : ∀ c d v a w, Q (.panic c) (Act.put a d v) w → Q (.panic c) a w) :
    ∀ (order : List (Nat × Nat)) (listed : Array Bool) (a : Act) (w : World) (fuel : Nat), orderB ops fin order listed = true → order.length ≤ fuel → Closed ops listed → Till S fin listed w →
      wpC P ops Q S order a w → wpAnyS P ops Q S fin fuel listed a w
  | [], listed, a, w, fuel, hB, _, _, _, h => by
    have hr : Region.ready .any ops listed = [] := by simpa [orderB] using hB
    cases fuel with
    | zero => exact ⟨hr, h⟩
    | succ n => exact ⟨fun _ => h, by rw [hr]; simp⟩
  | (i, k) :: r, listed, a, w, fuel, hB, hf, hcl, ht, h => by
    obtain ⟨fuel, rfl⟩ : ∃ n, fuel = n + 1 := ⟨fuel - 1, by simp at hf; omega⟩
    have hf' : r.length ≤ fuel := by simpa using hf
    simp only [orderB, Bool.and_eq_true] at hB
    obtain ⟨hB1, hB2⟩ := hB
    simp only [wpC] at h
    cases ho : ops[i]? with
    | none => simp [ho] at h
    | some o =>
      simp only [ho] at h
      have steady : ∀ (pure : Bool) (v : Value), steadyB ops fin listed i pure = true → Steady P ops (if pure then (fun _ => True) else S) o v a → wpC P ops Q S r (a.put o.dst v) w → wpAnyS P ops Q S fin (fuel + 1) listed a w := by
        intro pure v hst hy hw
        simp only [steadyB, Bool.and_eq_true, Bool.not_eq_true'] at hst
        obtain ⟨⟨⟨hfr, hrd⟩, hnf⟩, hp⟩ := hst
        have hrd' : i ∈ Region.ready .any ops listed := by simpa using hrd
        have hnf' : i ∉ fin := by simpa using hnf
        refine wpAnyS_first ho (Region.noSelect_spec hs) (fun c a w => hQ c _ _ a w) hnf' _ ?_ fuel listed a w hcl (Region.free_spec ho hfr) hrd' hy ht ?_
        · cases pure with
          | true => exact .inl fun _ => trivial
          | false => exact .inr ⟨rfl, fun f hf => ⟨ops.size, by simp only [Bool.false_or, List.all_eq_true] at hp; exact hp f hf⟩⟩
        · refine wpC_sound hs hQ r _ _ _ fuel hB2 hf' (hcl.set hrd') ?_ hw
          intro hx
          refine ht fun f hf => ?_
          have h0 := hx f hf
          cases hl : listed.getD f false with
          | false => rfl
          | true => rw [getD_set_true hl] at h0; cases h0
      by_cases k0 : k = 0
      · simp only [k0, if_true] at h hB1
        obtain ⟨v, hy, hw⟩ := h
        exact steady true v hB1 hy hw
      · by_cases k1 : k = 1
        · subst k1
          simp only [Nat.one_ne_zero, if_false, if_true] at h hB1
          obtain ⟨v, hy, hw⟩ := h
          exact steady false v hB1 hy hw
        · simp only [k0, k1, if_false, Bool.and_eq_true, beq_iff_eq] at h hB1
          obtain ⟨hr, hk⟩ := hB1
          have hrd' : i ∈ Region.ready .any ops listed := by rw [hr]; simp
          refine ⟨fun h0 => (by rw [h0] at hr; cases hr), fun j hj => ?_⟩
          rw [hr] at hj
          have hji : j = i := by simpa using hj
          subst hji
          by_cases k2 : k = 2
          · simp only [k2, if_true] at h
            exact wpOp_mono (fun a' w' ⟨h1, h2⟩ => ⟨fun _ => h1, wpC_sound hs hQ r _ _ _ fuel hB2 hf' (hcl.set hrd') (fun _ => h1) h2⟩) h
          · simp only [k2, if_false] at h
            simp only [k2, decide_false, Bool.false_or] at hk
            obtain ⟨f, hfm, hff⟩ := List.any_eq_true.1 hk
            have htill : ∀ w', Till S fin (listed.setIfInBounds j true) w' := fun w' hx => by
              have := hx f hfm
              rw [hff] at this
              cases this
            exact wpOp_mono (fun a' w' h2 => ⟨htill w', wpC_sound hs hQ r _ _ _ fuel hB2 hf' (hcl.set hrd') (htill w') h2⟩) h

/-- THE LAW: a region that draws, walked in one order. -/
theorem wp_region_chain {id : Nat} {a : Act} {w : World} (S : World → Prop) (fin : List Nat) (order : List (Nat × Nat)) (hm : P.follows .mixedOrders = true)
    (hB : (Region.noSelect ops && orderB ops fin order (Array.replicate ops.size false) && decide (order.length ≤ ops.size)) = true)
    (hQ : ∀ c d v a w, Q (.panic c) (Act.put a d v) w → Q (.panic c) a w) (hS : S w.drew) (h : wpC P ops Q S order a w.drew) : (Code.region id ops true).wp P Q a w := by
  simp only [Bool.and_eq_true, decide_eq_true_eq] at hB
  refine wp_region_any hm (wpAny_of_S (S := S) (fin := fin) _ _ _ _ ?_)
  refine wpC_sound hB.1.1 hQ order _ _ _ _ hB.1.2 hB.2 ⟨by simp, fun j o hj hl => ?_⟩ (fun _ => hS) h
  exfalso
  rcases Nat.lt_or_ge j ops.size with hlt | hge
  · simp [hlt] at hl
  · rw [Array.getElem?_eq_none hge] at hj; cases hj

theorem wpC_nil {S : World → Prop} {a : Act} {w : World} (h : Q .normal a w) : wpC P ops Q S [] a w := h

theorem wpC_pure {S : World → Prop} {i : Nat} {r : List (Nat × Nat)} {o : Oper} {v : Value} {a : Act} {w : World} (ho : ops[i]? = some o) (hw : Region.wanted o (yielded ops a.tmps) = true)
    (hv : ∀ w, (execOp a.eval o).run P w = .ok (.value v) w) (h : wpC P ops Q S r (a.put o.dst v) w) : wpC P ops Q S ((i, 0) :: r) a w := by
  simp only [wpC, ho, if_true]; exact ⟨v, .inl ⟨hw, fun w _ => hv w⟩, h⟩

theorem wpC_held {S : World → Prop} {i : Nat} {r : List (Nat × Nat)} {o : Oper} {v : Value} {a : Act} {w : World} (ho : ops[i]? = some o) (hw : Region.wanted o (yielded ops a.tmps) = true)
    (hv : ∀ w, S w → (execOp a.eval o).run P w = .ok (.value v) w) (h : wpC P ops Q S r (a.put o.dst v) w) : wpC P ops Q S ((i, 1) :: r) a w := by
  simp only [wpC, ho, Nat.one_ne_zero, if_false, if_true]; exact ⟨v, .inl ⟨hw, hv⟩, h⟩

/-- An operation whose guard says no. -/
theorem wpC_pass {S : World → Prop} {i k : Nat} {r : List (Nat × Nat)} {o : Oper} {a : Act} {w : World} (ho : ops[i]? = some o) (hw : Region.wanted o (yielded ops a.tmps) = false) (hk : k = 0 ∨ k = 1 ∨ k = 3)
    (h : wpC P ops Q S r (a.put o.dst undef) w) : wpC P ops Q S ((i, k) :: r) a w := by
  simp only [wpC, ho]
  rcases hk with rfl | rfl | rfl
  · simp only [if_true]; exact ⟨undef, .inr ⟨hw, rfl⟩, h⟩
  · simp only [Nat.one_ne_zero, if_false, if_true]; exact ⟨undef, .inr ⟨hw, rfl⟩, h⟩
  · simp [wpOp, ho, hw]; exact h

theorem wpC_step {S : World → Prop} {i : Nat} {r : List (Nat × Nat)} {o : Oper} {a : Act} {w : World} (ho : ops[i]? = some o) (hw : Region.wanted o (yielded ops a.tmps) = true)
    (h : ∀ K : Act → World → Prop, (∀ a' w', S w' → wpC P ops Q S r a' w' → K a' w') → Oper.wp P o a w K Q) : wpC P ops Q S ((i, 2) :: r) a w := by
  simp only [wpC, ho]
  simp only [wpOp, ho, hw, if_true]
  exact .inl (h _ fun a' w' h1 h2 => ⟨h1, h2⟩)

theorem wpC_last {S : World → Prop} {i : Nat} {r : List (Nat × Nat)} {o : Oper} {a : Act} {w : World} (ho : ops[i]? = some o) (hw : Region.wanted o (yielded ops a.tmps) = true)
    (h : ∀ K : Act → World → Prop, (∀ a' w', wpC P ops Q S r a' w' → K a' w') → Oper.wp P o a w K Q) : wpC P ops Q S ((i, 3) :: r) a w := by
  simp only [wpC, ho]
  simp only [wpOp, ho, hw, if_true]
  exact .inl (h _ fun a' w' h2 => h2)

end
end Go.Proofs.YtfoeadiejcheiaaDoor
