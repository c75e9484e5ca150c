/- What the reference's net is in memory. Conditions: those of each theorem. -/
import Derived.Test.YtgkdlpbnhjfkdaaNetP
import Derived.Test.YtgkdlpbnhjfkdaaNetO
namespace Go.Proofs.Ytgkdlpbnhjfkdaa
open Go.RowKit

/-- The net at block a: its rows to, its counts c. -/
structure RefRep (w : World) (a t : Nat) (vals : List Value) (to : List (List Pk)) (c : List Int) : Prop where
  ha : w.heap[a]? = some (.cells (netCells t to.length c).toArray 45 (0, 0))
  ht : w.heap[t]? = some (.cells vals.toArray 81 (0, 0))
  hc : c.length = 4
  hl : vals.length = to.length
  hn : to.length ≤ 17
  hr : ∀ (i : Nat) (v : Value) (l : List Pk), vals[i]? = some v → to[i]? = some l → w.ownsRow 0 83 2 v l.length (l.flatMap encPk) ∧ l.length ≤ 4096
  nd : (a :: t :: vals.filterMap Value.ownBlock).Nodup

theorem RefRep.cell_to {w a t vals to c} (h : RefRep w a t vals to c) : w.cell? ⟨a, 0, none⟩ = some (.slice (some ⟨t, 0, none⟩) to.length to.length) := by
  rw [cell_of_row w a 0 _ _ _ h.ha]; simp [netCells]

theorem RefRep.cell_val {w a t vals to c} (h : RefRep w a t vals to c) {i : Nat} {v : Value} (hi : vals[i]? = some v) : w.cell? ⟨t, i, none⟩ = some v := by
  rw [cell_of_row w t i _ _ _ h.ht]; simpa using hi

theorem RefRep.far_a {w a t vals to c} (h : RefRep w a t vals to c) {i : Nat} {v : Value} (hv : vals[i]? = some v) : v.ownBlock ≠ some a := by
  intro e
  have := h.nd
  simp only [List.nodup_cons, List.mem_cons, not_or] at this
  exact this.1.2 (mem_blocks hv e)

theorem RefRep.far_t {w a t vals to c} (h : RefRep w a t vals to c) {i : Nat} {v : Value} (hv : vals[i]? = some v) : v.ownBlock ≠ some t := by
  intro e
  have := h.nd
  simp only [List.nodup_cons, List.mem_cons, not_or] at this
  exact this.2.1 (mem_blocks hv e)

theorem RefRep.a_ne_t {w a t vals to c} (h : RefRep w a t vals to c) : a ≠ t := by
  have := h.nd
  simp only [List.nodup_cons, List.mem_cons, not_or] at this
  exact this.1.1

theorem RefRep.blocks_lt {w a t vals to c} (h : RefRep w a t vals to c) : ∀ x ∈ a :: t :: vals.filterMap Value.ownBlock, x < w.heap.size := by
  intro x hx
  simp only [List.mem_cons, List.mem_filterMap] at hx
  rcases hx with rfl | rfl | ⟨v, hv, hx⟩
  · exact heap_lt h.ha
  · exact heap_lt h.ht
  · obtain ⟨i, hi, rfl⟩ := List.getElem_of_mem hv
    have hi2 : i < to.length := by rw [← h.hl]; exact hi
    exact ((h.hr i _ _ (List.getElem?_eq_getElem hi) (List.getElem?_eq_getElem hi2)).1.lt x hx).2

theorem RefRep.keep {w w' : World} {S : List Nat} {a t vals to c} (h : RefRep w a t vals to c) (k : Keeps S w w') (hs : ∀ x ∈ a :: t :: vals.filterMap Value.ownBlock, x ∉ S) : RefRep w' a t vals to c :=
  ⟨k.heap h.ha (hs _ (by simp)), k.heap h.ht (hs _ (by simp)), h.hc, h.hl, h.hn, fun i v l hv hl => ⟨own_kept (h.hr i v l hv hl).1 k (fun b hb => hs _ (by simp [mem_blocks hv hb])), (h.hr i v l hv hl).2⟩, h.nd⟩

theorem RefRep.row {w a t vals to c} (h : RefRep w a t vals to c) {y : Nat} {l : List Pk} (hl : to[y]? = some l) : ∃ v, vals[y]? = some v ∧ w.ownsRow 0 83 2 v l.length (l.flatMap encPk) ∧ l.length ≤ 4096 := by
  have hy : y < vals.length := by rw [h.hl]; exact (List.getElem?_eq_some_iff.1 hl).1
  exact ⟨_, List.getElem?_eq_getElem hy, h.hr y _ l (List.getElem?_eq_getElem hy) hl⟩

theorem RefRep.cell_c {w a t vals to c} (h : RefRep w a t vals to c) {k : Nat} (hk : k < 4) : w.cell? ⟨a, 1 + k, none⟩ = some (.int .i64 (c.getD k 0)) := by
  rw [cell_of_row w a (1 + k) _ _ _ h.ha]
  have := h.hc
  simp [netCells, Nat.add_comm 1 k, List.getElem?_map, List.getD_eq_getElem?_getD, List.getElem?_eq_getElem (show k < c.length by omega)]

/-- The net at a is (to, c): somewhere. -/
def RefPost (w w' : World) (a t : Nat) (vals : List Value) (to : List (List Pk)) (c : List Int) : Prop := ∃ vals', RefRep w' a t vals' to c ∧ NetStep w w' a t vals vals'

theorem RefPost.alloc {w w' : World} {a t vals to c} (h : RefPost w w' a t vals to c) (o : Obj) : RefPost w (w'.alloc o) a t vals to c := by
  obtain ⟨v, h1, h2⟩ := h
  have hk : Keeps [] w' (w'.alloc o) := (Keeps.refl _ _).alloc _
  exact ⟨v, h1.keep hk (by simp), h2.trans (NetStep.same hk)⟩

theorem RefPost.drew {w w' : World} {a t vals to c} (h : RefPost w w' a t vals to c) : RefPost w w'.drew a t vals to c := by
  obtain ⟨v, h1, h2⟩ := h
  have hk : Keeps [] w' w'.drew := (Keeps.refl _ _).drew
  exact ⟨v, h1.keep hk (by simp), h2.trans (NetStep.same hk)⟩

/-- What a call leaves behind that has put another row in the place of row i. -/
theorem RefRep.rowed {w w1 : World} {a t vals to c} (h : RefRep w a t vals to c) {i : Nat} {v v' : Value} {l l' : List Pk} (hv : vals[i]? = some v) (hi : to[i]? = some l)
    (hl' : l'.length ≤ 4096) (hown : w1.ownsRow 0 83 2 v' l'.length (l'.flatMap encPk)) (hkeep : Keeps v.ownBlock.toList w w1) (hat : v'.ownBlock = v.ownBlock ∨ v'.ownBlock = none ∨ ∃ H, v'.ownBlock = some H ∧ w.heap.size ≤ H) :
    RefRep (w1.setCell ⟨t, i, none⟩ v') a t (vals.set i v') (to.set i l') c ∧ NetStep w (w1.setCell ⟨t, i, none⟩ v') a t vals (vals.set i v') := by
  have hane := h.a_ne_t
  have hlt := h.blocks_lt
  have hvt : v'.ownBlock ≠ some t := by
    rcases hat with e | e | ⟨H, e, hH⟩ <;> rw [e]
    · exact h.far_t hv
    · simp
    · intro e; have := hlt t (by simp); cases e; omega
  have hnd0 := h.nd
  simp only [List.nodup_cons, List.mem_cons, not_or] at hnd0
  obtain ⟨⟨_, hna⟩, hnt, hnv⟩ := hnd0
  have hsub : ∀ y, v.ownBlock = some y → y ∈ vals.filterMap Value.ownBlock := fun y e => mem_blocks hv e
  have hset : ∃ H, w.heap.size ≤ H ∧ ((vals.set i v').filterMap Value.ownBlock).Nodup ∧ ∀ x ∈ (vals.set i v').filterMap Value.ownBlock, x ∈ vals.filterMap Value.ownBlock ∨ x = H := by
    rcases hat with e | e | ⟨H, e, hH⟩
    · exact ⟨w.heap.size, Nat.le_refl _, nodup_set_blocks vals i v v' _ hv (.inl e) (fun y hy => hlt y (by simp [hy])) hnv⟩
    · exact ⟨w.heap.size, Nat.le_refl _, nodup_set_none vals i v' e hnv _⟩
    · exact ⟨H, hH, nodup_set_blocks vals i v v' _ hv (.inr e) (fun y hy => by have := hlt y (by simp [hy]); omega) hnv⟩
  obtain ⟨H, hH, hnd1, hnd2⟩ := hset
  refine ⟨⟨?_, ?_, h.hc, by simp [h.hl], by simpa using h.hn, ?_, ?_⟩, ⟨?_, ?_⟩⟩
  · have h1 : w1.heap[a]? = some (.cells (netCells t to.length c).toArray 45 (0, 0)) := hkeep.heap h.ha (by simpa using h.far_a hv)
    have h2 := heap_set_other (a := ⟨t, i, none⟩) (v := v') h1 hane
    rw [h2]
    simp [netCells]
  · have h1 : w1.heap[t]? = some (.cells vals.toArray 81 (0, 0)) := hkeep.heap h.ht (by simpa using h.far_t hv)
    have h2 := heap_set_self (o := i) (v := v') h1
    rw [h2]
    simp
  · intro j u m hj hm
    by_cases hij : i = j
    · subst hij
      have hil := (List.getElem?_eq_some_iff.1 hv).1
      have hil' := (List.getElem?_eq_some_iff.1 hi).1
      rw [List.getElem?_set_self hil] at hj
      rw [List.getElem?_set_self hil'] at hm
      cases hj; cases hm
      exact ⟨own_set_other hown _ (by simpa using hvt), hl'⟩
    · rw [List.getElem?_set_ne hij] at hj hm
      obtain ⟨ho, hle⟩ := h.hr j u m hj hm
      refine ⟨own_set_other (own_kept ho hkeep ?_) _ (by simpa using h.far_t hj), hle⟩
      intro b hb hmem
      simp only [Option.mem_toList] at hmem
      exact absurd (rows_apart vals i j v u b hv hj hij hnv hmem hb) id
  · simp only [List.nodup_cons, List.mem_cons, not_or]
    refine ⟨⟨hane, fun hm => ?_⟩, fun hm => ?_, hnd1⟩
    · rcases hnd2 _ hm with h3 | h3
      · exact hna h3
      · have := hlt a (by simp); omega
    · rcases hnd2 _ hm with h3 | h3
      · exact hnt h3
      · have := hlt t (by simp); omega
  · refine (hkeep.mono ?_).setCell (.inl (by simp [blocksOf])) _
    intro y hy _
    simp only [Option.mem_toList] at hy
    simp [blocksOf, hsub y hy]
  · intro x hx
    simp only [blocksOf, List.mem_cons] at hx ⊢
    rcases hx with rfl | rfl | hx
    · exact .inl (.inl rfl)
    · exact .inl (.inr (.inl rfl))
    · rcases hnd2 x hx with h3 | h3
      · exact .inl (.inr (.inr h3))
      · exact .inr (by omega)

theorem RefRep.counted {w : World} {a t vals to c} (h : RefRep w a t vals to c) {k : Nat} (x : Int) : RefRep (w.setCell ⟨a, 1 + k, none⟩ (.int .i64 x)) a t vals to (c.set k x) ∧ NetStep w (w.setCell ⟨a, 1 + k, none⟩ (.int .i64 x)) a t vals vals := by
  refine ⟨⟨?_, heap_set_other h.ht (Ne.symm h.a_ne_t), by simp [h.hc], h.hl, h.hn, fun i v l hv hl => ⟨own_set_other (h.hr i v l hv hl).1 _ (by simpa using h.far_a hv), (h.hr i v l hv hl).2⟩, h.nd⟩, (Keeps.refl _ _).setCell (.inl (by simp [blocksOf])) _, fun x hx => .inl hx⟩
  have h3 := heap_set_self (o := 1 + k) (v := .int .i64 x) h.ha
  rw [h3]
  simp only [netCells, List.setIfInBounds_toArray, Option.some.injEq, Obj.cells.injEq, and_true]
  rw [Nat.add_comm 1 k, List.set_cons_succ, List.map_set]

end Go.Proofs.Ytgkdlpbnhjfkdaa
