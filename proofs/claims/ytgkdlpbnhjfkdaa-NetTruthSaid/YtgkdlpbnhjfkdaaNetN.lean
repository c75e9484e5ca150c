/- Contract of Clear. Conditions: those of the theorem. -/
import Derived.Test.YtgkdlpbnhjfkdaaNetM
namespace Go.Proofs.Ytgkdlpbnhjfkdaa
open Go.RowKit

theorem nodup_set_none : ∀ (vals : List Value) (i : Nat) (v' : Value), v'.ownBlock = none → (vals.filterMap Value.ownBlock).Nodup → ∀ H : Nat,
    ((vals.set i v').filterMap Value.ownBlock).Nodup ∧ ∀ x ∈ (vals.set i v').filterMap Value.ownBlock, x ∈ vals.filterMap Value.ownBlock ∨ x = H := by
  intro vals i v' hv hnd H
  have hs : ((vals.set i v').filterMap Value.ownBlock).Sublist (vals.filterMap Value.ownBlock) := by
    induction vals generalizing i with
    | nil => simp
    | cons u r ih =>
      have hr : (r.filterMap Value.ownBlock).Nodup := by
        simp only [List.filterMap_cons] at hnd
        cases hu : u.ownBlock with
        | none => simpa [hu] using hnd
        | some g => simp only [hu, List.nodup_cons] at hnd; exact hnd.2
      cases i with
      | zero =>
        simp only [List.set_cons_zero, List.filterMap_cons, hv]
        cases u.ownBlock with
        | none => exact List.Sublist.refl _
        | some g => exact List.sublist_cons_self _ _
      | succ i =>
        simp only [List.set_cons_succ, List.filterMap_cons]
        cases hu : u.ownBlock with
        | none => exact ih i hr
        | some g => exact (ih i hr).cons_cons _
  exact ⟨hs.nodup hnd, fun x hx => .inl (hs.subset hx)⟩

/-- What a call leaves behind that has put another row in the place of row i. -/
theorem NetRep.rowed {w w1 : World} {a t vals to c} (h : NetRep w a t vals to c) {i : Nat} {v v' : Value} {l l' : List Pk} (hv : vals[i]? = some v) (hi : to[i]? = some l)
    (hl' : l'.length ≤ 4096) (hown : w1.ownsRow 0 68 2 v' l'.length (l'.flatMap encPk)) (hkeep : Keeps v.ownBlock.toList w w1) (hat : v'.ownBlock = v.ownBlock ∨ v'.ownBlock = none ∨ ∃ H, v'.ownBlock = some H ∧ w.heap.size ≤ H) :
    NetRep (w1.setCell ⟨t, i, none⟩ v') a t (vals.set i v') (to.set i l') c ∧ NetStep w (w1.setCell ⟨t, i, none⟩ v') a t vals (vals.set i v') := by
  have hane := h.a_ne_t
  have hlt := h.blocks_lt
  have hvt : v'.ownBlock ≠ some t := by
    rcases hat with e | e | ⟨H, e, hH⟩ <;> rw [e]
    · exact h.far_t hv
    · simp
    · intro e; have := hlt t (by simp); cases e; omega
  have hnd0 := h.nd
  simp only [List.nodup_cons, List.mem_cons, not_or] at hnd0
  obtain ⟨⟨_, hna⟩, hnt, hnv⟩ := hnd0
  have hsub : ∀ y, v.ownBlock = some y → y ∈ vals.filterMap Value.ownBlock := fun y e => mem_blocks hv e
  have hset : ∃ H, w.heap.size ≤ H ∧ ((vals.set i v').filterMap Value.ownBlock).Nodup ∧ ∀ x ∈ (vals.set i v').filterMap Value.ownBlock, x ∈ vals.filterMap Value.ownBlock ∨ x = H := by
    rcases hat with e | e | ⟨H, e, hH⟩
    · exact ⟨w.heap.size, Nat.le_refl _, nodup_set_blocks vals i v v' _ hv (.inl e) (fun y hy => hlt y (by simp [hy])) hnv⟩
    · exact ⟨w.heap.size, Nat.le_refl _, nodup_set_none vals i v' e hnv _⟩
    · exact ⟨H, hH, nodup_set_blocks vals i v v' _ hv (.inr e) (fun y hy => by have := hlt y (by simp [hy]); omega) hnv⟩
  obtain ⟨H, hH, hnd1, hnd2⟩ := hset
  refine ⟨⟨?_, ?_, h.hc, by simp [h.hl], by simpa using h.hn, ?_, ?_⟩, ⟨?_, ?_⟩⟩
  · have h1 : w1.heap[a]? = some (.cells (netCells t to.length c).toArray 64 (0, 0)) := hkeep.heap h.ha (by simpa using h.far_a hv)
    have h2 := heap_set_other (a := ⟨t, i, none⟩) (v := v') h1 hane
    rw [h2]
    simp [netCells]
  · have h1 : w1.heap[t]? = some (.cells vals.toArray 73 (0, 0)) := hkeep.heap h.ht (by simpa using h.far_t hv)
    have h2 := heap_set_self (o := i) (v := v') h1
    rw [h2]
    simp
  · intro j u m hj hm
    by_cases hij : i = j
    · subst hij
      have hil := (List.getElem?_eq_some_iff.1 hv).1
      have hil' := (List.getElem?_eq_some_iff.1 hi).1
      rw [List.getElem?_set_self hil] at hj
      rw [List.getElem?_set_self hil'] at hm
      cases hj; cases hm
      exact ⟨own_set_other hown _ (by simpa using hvt), hl'⟩
    · rw [List.getElem?_set_ne hij] at hj hm
      obtain ⟨ho, hle⟩ := h.hr j u m hj hm
      refine ⟨own_set_other (own_kept ho hkeep ?_) _ (by simpa using h.far_t hj), hle⟩
      intro b hb hmem
      simp only [Option.mem_toList] at hmem
      exact absurd (rows_apart vals i j v u b hv hj hij hnv hmem hb) id
  · simp only [List.nodup_cons, List.mem_cons, not_or]
    refine ⟨⟨hane, fun hm => ?_⟩, fun hm => ?_, hnd1⟩
    · rcases hnd2 _ hm with h3 | h3
      · exact hna h3
      · have := hlt a (by simp); omega
    · rcases hnd2 _ hm with h3 | h3
      · exact hnt h3
      · have := hlt t (by simp); omega
  · refine (hkeep.mono ?_).setCell (.inl (by simp [blocksOf])) _
    intro y hy _
    simp only [Option.mem_toList] at hy
    simp [blocksOf, hsub y hy]
  · intro x hx
    simp only [blocksOf, List.mem_cons] at hx ⊢
    rcases hx with rfl | rfl | hx
    · exact .inl (.inl rfl)
    · exact .inl (.inr (.inl rfl))
    · rcases hnd2 x hx with h3 | h3
      · exact .inl (.inr (.inr h3))
      · exact .inr (by omega)

def clr (node : Int) (i : Nat) (l : List Pk) : List Pk := l.filter fun p => !((i : Int) == node || p.1 == node)
def clrTo (node : Int) (to : List (List Pk)) (j : Nat) : List (List Pk) := to.mapIdx fun i l => if i < j then clr node i l else l
def lostTo (node : Int) (to : List (List Pk)) : Nat → Nat
  | 0 => 0
  | j + 1 => lostTo node to j + ((to.getD j []).length - (clr node j (to.getD j [])).length)

theorem clrTo_zero (node : Int) (to : List (List Pk)) : clrTo node to 0 = to := by
  apply List.ext_getElem?
  intro i
  simp [clrTo]
theorem clrTo_get (node : Int) (to : List (List Pk)) (j : Nat) {l : List Pk} (h : to[j]? = some l) : (clrTo node to j)[j]? = some l := by
  simp [clrTo, h]
theorem clrTo_step (node : Int) (to : List (List Pk)) (j : Nat) {l : List Pk} (h : to[j]? = some l) : clrTo node to (j + 1) = (clrTo node to j).set j (clr node j l) := by
  apply List.ext_getElem?
  intro i
  by_cases hij : j = i
  · subst hij
    have hlt : j < (clrTo node to j).length := by simp [clrTo]; exact (List.getElem?_eq_some_iff.1 h).1
    rw [List.getElem?_set_self hlt]
    simp [clrTo, h]
  · rw [List.getElem?_set_ne hij]
    simp only [clrTo, List.getElem?_mapIdx]
    cases to[i]? with
    | none => rfl
    | some m =>
      simp only [Option.map_some]
      by_cases h1 : i < j
      · rw [if_pos h1, if_pos (by omega)]
      · rw [if_neg h1, if_neg (by omega)]
theorem clrTo_len (node : Int) (to : List (List Pk)) (j : Nat) : (clrTo node to j).length = to.length := by simp [clrTo]
theorem lostTo_le (node : Int) (to : List (List Pk)) (hl : ∀ l ∈ to, l.length ≤ 4096) : ∀ j, lostTo node to j ≤ j * 4096 := by
  intro j
  induction j with
  | zero => simp [lostTo]
  | succ j ih =>
    have : (to.getD j []).length ≤ 4096 := by
      rw [List.getD_eq_getElem?_getD]
      cases h : to[j]? with
      | none => simp
      | some l => exact hl l (List.mem_of_getElem? h)
    simp only [lostTo]
    omega

end Go.Proofs.Ytgkdlpbnhjfkdaa
