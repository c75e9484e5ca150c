/- A statement whose order is open, in which two operations that make memory may come in either order: the orders as a tree. -/
import Derived.Test.YtfoeadiejcheiaaDoorRegion
namespace Go.Proofs.YtfoeadiejcheiaaDoor
open Go.RowKit

/-- A tree of orders: an operation (kinds as in orderB); two that may come up. -/
inductive OT where
  | done : OT
  | op : Nat → Nat → OT → OT
  | alt : Nat → OT → Nat → OT → OT

section
variable {P : Program} {ops : Array Oper} {Q : Exit → Act → World → Prop}

def orderT (ops : Array Oper) (fin : List Nat) : OT → Array Bool → Bool
  | .done, listed => (Region.ready .any ops listed).isEmpty
  | .op i k r, listed =>
    (if k = 0 then steadyB ops fin listed i true else if k = 1 then steadyB ops fin listed i false else
      (Region.ready .any ops listed == [i]) && (k = 2 || fin.any fun f => (listed.setIfInBounds i true).getD f false)) && orderT ops fin r (listed.setIfInBounds i true)
  | .alt i ri j rj, listed => (Region.ready .any ops listed == [i, j]) && orderT ops fin ri (listed.setIfInBounds i true) && orderT ops fin rj (listed.setIfInBounds j true)

def OT.depth : OT → Nat
  | .done => 0
  | .op _ _ r => r.depth + 1
  | .alt _ ri _ rj => max ri.depth rj.depth + 1

def wpT (P : Program) (ops : Array Oper) (Q : Exit → Act → World → Prop) (S : World → Prop) : OT → Act → World → Prop
  | .done, a, w => Q .normal a w
  | .op i k r, a, w =>
    match ops[i]? with
    | none => False
    | some o =>
      if k = 0 then ∃ v, Steady P ops (fun _ => True) o v a ∧ wpT P ops Q S r (a.put o.dst v) w
      else if k = 1 then ∃ v, Steady P ops S o v a ∧ wpT P ops Q S r (a.put o.dst v) w
      else if k = 2 then wpOp P ops Q i (fun a' w' => S w' ∧ wpT P ops Q S r a' w') a w
      else wpOp P ops Q i (fun a' w' => wpT P ops Q S r a' w') a w
  | .alt i ri j rj, a, w => wpOp P ops Q i (fun a' w' => S w' ∧ wpT P ops Q S ri a' w') a w ∧ wpOp P ops Q j (fun a' w' => S w' ∧ wpT P ops Q S rj a' w') a w

theorem wpT_sound {S : World → Prop} {fin : List Nat} (hs : Region.noSelect ops = true) (hQ : ∀ c d v a w, Q (.panic c) (Act.put a d v) w → Q (.panic c) a w) :
    ∀ (order : OT) (listed : Array Bool) (a : Act) (w : World) (fuel : Nat), orderT ops fin order listed = true → order.depth ≤ fuel → Closed ops listed → Till S fin listed w →
      wpT P ops Q S order a w → wpAnyS P ops Q S fin fuel listed a w
  | .done, listed, a, w, fuel, hB, _, _, _, h => by
    have hr : Region.ready .any ops listed = [] := by simpa [orderT] using hB
    cases fuel with
    | zero => exact ⟨hr, h⟩
    | succ n => exact ⟨fun _ => h, by rw [hr]; simp⟩
  | .alt i ri j rj, listed, a, w, fuel, hB, hf, hcl, ht, h => by
    obtain ⟨fuel, rfl⟩ : ∃ n, fuel = n + 1 := ⟨fuel - 1, by simp only [OT.depth] at hf; omega⟩
    simp only [OT.depth] at hf
    simp only [orderT, Bool.and_eq_true, beq_iff_eq] at hB
    obtain ⟨⟨hr, hi⟩, hj⟩ := hB
    obtain ⟨h1, h2⟩ := h
    refine ⟨fun h0 => (by rw [h0] at hr; cases hr), fun x hx => ?_⟩
    have hx' := hx
    rw [hr] at hx
    simp only [List.mem_cons, List.not_mem_nil, or_false] at hx
    rcases hx with rfl | rfl
    · exact wpOp_mono (fun a' w' ⟨h3, h4⟩ => ⟨fun _ => h3, wpT_sound hs hQ ri _ _ _ fuel hi (by omega) (hcl.set hx') (fun _ => h3) h4⟩) h1
    · exact wpOp_mono (fun a' w' ⟨h3, h4⟩ => ⟨fun _ => h3, wpT_sound hs hQ rj _ _ _ fuel hj (by omega) (hcl.set hx') (fun _ => h3) h4⟩) h2
  | .op i k r, listed, a, w, fuel, hB, hf, hcl, ht, h => by
    obtain ⟨fuel, rfl⟩ : ∃ n, fuel = n + 1 := ⟨fuel - 1, by simp only [OT.depth] at hf; omega⟩
    have hf' : r.depth ≤ fuel := by simp only [OT.depth] at hf; omega
    simp only [orderT, Bool.and_eq_true] at hB
    obtain ⟨hB1, hB2⟩ := hB
    simp only [wpT] at h
    cases ho : ops[i]? with
    | none => simp [ho] at h
    | some o =>
      simp only [ho] at h
      have steady : ∀ (pure : Bool) (v : Value), steadyB ops fin listed i pure = true → Steady P ops (if pure then (fun _ => True) else S) o v a → wpT P ops Q S r (a.put o.dst v) w → wpAnyS P ops Q S fin (fuel + 1) listed a w := by
        intro pure v hst hy hw
        simp only [steadyB, Bool.and_eq_true, Bool.not_eq_true'] at hst
        obtain ⟨⟨⟨hfr, hrd⟩, hnf⟩, hp⟩ := hst
        have hrd' : i ∈ Region.ready .any ops listed := by simpa using hrd
        have hnf' : i ∉ fin := by simpa using hnf
        refine wpAnyS_first ho (Region.noSelect_spec hs) (fun c a w => hQ c _ _ a w) hnf' _ ?_ fuel listed a w hcl (Region.free_spec ho hfr) hrd' hy ht ?_
        · cases pure with
          | true => exact .inl fun _ => trivial
          | false => exact .inr ⟨rfl, fun f hf => ⟨ops.size, by simp only [Bool.false_or, List.all_eq_true] at hp; exact hp f hf⟩⟩
        · refine wpT_sound hs hQ r _ _ _ fuel hB2 hf' (hcl.set hrd') ?_ hw
          intro hx
          refine ht fun f hf => ?_
          have h0 := hx f hf
          cases hl : listed.getD f false with
          | false => rfl
          | true => rw [getD_set_true hl] at h0; cases h0
      by_cases k0 : k = 0
      · simp only [k0, if_true] at h hB1
        obtain ⟨v, hy, hw⟩ := h
        exact steady true v hB1 hy hw
      · by_cases k1 : k = 1
        · subst k1
          simp only [Nat.one_ne_zero, if_false, if_true] at h hB1
          obtain ⟨v, hy, hw⟩ := h
          exact steady false v hB1 hy hw
        · simp only [k0, k1, if_false, Bool.and_eq_true, beq_iff_eq] at h hB1
          obtain ⟨hr, hk⟩ := hB1
          have hrd' : i ∈ Region.ready .any ops listed := by rw [hr]; simp
          refine ⟨fun h0 => (by rw [h0] at hr; cases hr), fun j hj => ?_⟩
          rw [hr] at hj
          have hji : j = i := by simpa using hj
          subst hji
          by_cases k2 : k = 2
          · simp only [k2, if_true] at h
            exact wpOp_mono (fun a' w' ⟨h1, h2⟩ => ⟨fun _ => h1, wpT_sound hs hQ r _ _ _ fuel hB2 hf' (hcl.set hrd') (fun _ => h1) h2⟩) h
          · simp only [k2, if_false] at h
            simp only [k2, decide_false, Bool.false_or] at hk
            obtain ⟨f, hfm, hff⟩ := List.any_eq_true.1 hk
            have htill : ∀ w', Till S fin (listed.setIfInBounds j true) w' := fun w' hx => by
              have := hx f hfm
              rw [hff] at this
              cases this
            exact wpOp_mono (fun a' w' h2 => ⟨htill w', wpT_sound hs hQ r _ _ _ fuel hB2 hf' (hcl.set hrd') (htill w') h2⟩) h

/-- THE LAW: a region that draws, walked along a tree of orders. -/
theorem wp_region_tree {id : Nat} {a : Act} {w : World} (S : World → Prop) (fin : List Nat) (order : OT) (hm : P.follows .mixedOrders = true)
    (hB : (Region.noSelect ops && orderT ops fin order (Array.replicate ops.size false) && decide (order.depth ≤ ops.size)) = true)
    (hQ : ∀ c d v a w, Q (.panic c) (Act.put a d v) w → Q (.panic c) a w) (hS : S w.drew) (h : wpT P ops Q S order a w.drew) : (Code.region id ops true).wp P Q a w := by
  simp only [Bool.and_eq_true, decide_eq_true_eq] at hB
  refine wp_region_any hm (wpAny_of_S (S := S) (fin := fin) _ _ _ _ ?_)
  refine wpT_sound hB.1.1 hQ order _ _ _ _ hB.1.2 hB.2 ⟨by simp, fun j o hj hl => ?_⟩ (fun _ => hS) h
  exfalso
  rcases Nat.lt_or_ge j ops.size with hlt | hge
  · simp [hlt] at hl
  · rw [Array.getElem?_eq_none hge] at hj; cases hj

theorem wpT_done {S : World → Prop} {a : Act} {w : World} (h : Q .normal a w) : wpT P ops Q S .done a w := h

theorem wpT_pure {S : World → Prop} {i : Nat} {r : OT} {o : Oper} {v : Value} {a : Act} {w : World} (ho : ops[i]? = some o) (hw : Region.wanted o (yielded ops a.tmps) = true)
    (hv : ∀ w, (execOp a.eval o).run P w = .ok (.value v) w) (h : wpT P ops Q S r (a.put o.dst v) w) : wpT P ops Q S (.op i 0 r) a w := by
  simp only [wpT, ho, if_true]; exact ⟨v, .inl ⟨hw, fun w _ => hv w⟩, h⟩

theorem wpT_held {S : World → Prop} {i : Nat} {r : OT} {o : Oper} {v : Value} {a : Act} {w : World} (ho : ops[i]? = some o) (hw : Region.wanted o (yielded ops a.tmps) = true)
    (hv : ∀ w, S w → (execOp a.eval o).run P w = .ok (.value v) w) (h : wpT P ops Q S r (a.put o.dst v) w) : wpT P ops Q S (.op i 1 r) a w := by
  simp only [wpT, ho, Nat.one_ne_zero, if_false, if_true]; exact ⟨v, .inl ⟨hw, hv⟩, h⟩

/-- An operation whose guard says no. -/
theorem wpT_pass {S : World → Prop} {i k : Nat} {r : OT} {o : Oper} {a : Act} {w : World} (ho : ops[i]? = some o) (hw : Region.wanted o (yielded ops a.tmps) = false) (hk : k = 0 ∨ k = 1 ∨ k = 3)
    (h : wpT P ops Q S r (a.put o.dst undef) w) : wpT P ops Q S (.op i k r) a w := by
  simp only [wpT, ho]
  rcases hk with rfl | rfl | rfl
  · simp only [if_true]; exact ⟨undef, .inr ⟨hw, rfl⟩, h⟩
  · simp only [Nat.one_ne_zero, if_false, if_true]; exact ⟨undef, .inr ⟨hw, rfl⟩, h⟩
  · simp [wpOp, ho, hw]; exact h

theorem wpT_pass2 {S : World → Prop} {i : Nat} {r : OT} {o : Oper} {a : Act} {w : World} (ho : ops[i]? = some o) (hw : Region.wanted o (yielded ops a.tmps) = false) (hS : S w)
    (h : wpT P ops Q S r (a.put o.dst undef) w) : wpT P ops Q S (.op i 2 r) a w := by
  simp only [wpT, ho]
  simp only [wpOp, ho, hw, Bool.false_eq_true, if_false]
  exact ⟨hS, h⟩

theorem wpT_altpass {S : World → Prop} {i j : Nat} {ri rj : OT} {oi oj : Oper} {a : Act} {w : World} (hi : ops[i]? = some oi) (hj : ops[j]? = some oj) (hwi : Region.wanted oi (yielded ops a.tmps) = false) (hwj : Region.wanted oj (yielded ops a.tmps) = false)
    (hS : S w) (h1 : wpT P ops Q S ri (a.put oi.dst undef) w) (h2 : wpT P ops Q S rj (a.put oj.dst undef) w) : wpT P ops Q S (.alt i ri j rj) a w := by
  simp only [wpT]
  simp only [wpOp, hi, hj, hwi, hwj, Bool.false_eq_true, if_false]
  exact ⟨⟨hS, h1⟩, ⟨hS, h2⟩⟩

theorem wpT_step {S : World → Prop} {i : Nat} {r : OT} {o : Oper} {a : Act} {w : World} (ho : ops[i]? = some o) (hw : Region.wanted o (yielded ops a.tmps) = true)
    (h : ∀ K : Act → World → Prop, (∀ a' w', S w' → wpT P ops Q S r a' w' → K a' w') → Oper.wp P o a w K Q) : wpT P ops Q S (.op i 2 r) a w := by
  simp only [wpT, ho]
  simp only [wpOp, ho, hw, if_true]
  exact .inl (h _ fun a' w' h1 h2 => ⟨h1, h2⟩)

theorem wpT_last {S : World → Prop} {i : Nat} {r : OT} {o : Oper} {a : Act} {w : World} (ho : ops[i]? = some o) (hw : Region.wanted o (yielded ops a.tmps) = true)
    (h : ∀ K : Act → World → Prop, (∀ a' w', wpT P ops Q S r a' w' → K a' w') → Oper.wp P o a w K Q) : wpT P ops Q S (.op i 3 r) a w := by
  simp only [wpT, ho]
  simp only [wpOp, ho, hw, if_true]
  exact .inl (h _ fun a' w' h2 => h2)

/-- Two that may come up: each, and the rest behind it. -/
theorem wpT_alt {S : World → Prop} {i j : Nat} {ri rj : OT} {oi oj : Oper} {a : Act} {w : World} (hi : ops[i]? = some oi) (hj : ops[j]? = some oj) (hwi : Region.wanted oi (yielded ops a.tmps) = true) (hwj : Region.wanted oj (yielded ops a.tmps) = true)
    (h1 : ∀ K : Act → World → Prop, (∀ a' w', S w' → wpT P ops Q S ri a' w' → K a' w') → Oper.wp P oi a w K Q)
    (h2 : ∀ K : Act → World → Prop, (∀ a' w', S w' → wpT P ops Q S rj a' w' → K a' w') → Oper.wp P oj a w K Q) : wpT P ops Q S (.alt i ri j rj) a w := by
  simp only [wpT]
  simp only [wpOp, hi, hj, hwi, hwj, if_true]
  exact ⟨.inl (h1 _ fun a' w' h1 h2 => ⟨h1, h2⟩), .inl (h2 _ fun a' w' h1 h2 => ⟨h1, h2⟩)⟩

end
end Go.Proofs.YtfoeadiejcheiaaDoor
