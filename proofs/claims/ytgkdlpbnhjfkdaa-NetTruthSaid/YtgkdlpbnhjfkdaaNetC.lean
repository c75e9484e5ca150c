/- What a net is in memory, and the contract of putting a packet on its way. Conditions: those of each theorem. -/
import Derived.Test.YtgkdlpbnhjfkdaaNetB
import Derived.Test.YtgkdlpbnhjfkdaaRegion
namespace Go.Proofs.Ytgkdlpbnhjfkdaa
open Go.RowKit

def netCells (t n : Nat) (c : List Int) : List Value := .slice (some ⟨t, 0, none⟩) n n :: c.map (.int .i64)

/-- The net at block a: its rows to, its counts c. -/
structure NetRep (w : World) (a t : Nat) (vals : List Value) (to : List (List Pk)) (c : List Int) : Prop where
  ha : w.heap[a]? = some (.cells (netCells t to.length c).toArray 64 (0, 0))
  ht : w.heap[t]? = some (.cells vals.toArray 73 (0, 0))
  hc : c.length = 4
  hl : vals.length = to.length
  hn : to.length ≤ 17
  hr : ∀ (i : Nat) (v : Value) (l : List Pk), vals[i]? = some v → to[i]? = some l → w.ownsRow 0 68 2 v l.length (l.flatMap encPk) ∧ l.length ≤ 4096
  nd : (a :: t :: vals.filterMap Value.ownBlock).Nodup

theorem NetRep.cell_to {w a t vals to c} (h : NetRep w a t vals to c) : w.cell? ⟨a, 0, none⟩ = some (.slice (some ⟨t, 0, none⟩) to.length to.length) := by
  rw [cell_of_row w a 0 _ _ _ h.ha]; simp [netCells]

theorem NetRep.cell_val {w a t vals to c} (h : NetRep w a t vals to c) {i : Nat} {v : Value} (hi : vals[i]? = some v) : w.cell? ⟨t, i, none⟩ = some v := by
  rw [cell_of_row w t i _ _ _ h.ht]; simpa using hi

theorem mem_blocks {vals : List Value} {i : Nat} {v : Value} {g : Nat} (hv : vals[i]? = some v) (hg : v.ownBlock = some g) : g ∈ vals.filterMap Value.ownBlock :=
  List.mem_filterMap.2 ⟨v, List.mem_of_getElem? hv, hg⟩

theorem NetRep.far_a {w a t vals to c} (h : NetRep w a t vals to c) {i : Nat} {v : Value} (hv : vals[i]? = some v) : v.ownBlock ≠ some a := by
  intro e
  have := h.nd
  simp only [List.nodup_cons, List.mem_cons, not_or] at this
  exact this.1.2 (mem_blocks hv e)
theorem NetRep.far_t {w a t vals to c} (h : NetRep w a t vals to c) {i : Nat} {v : Value} (hv : vals[i]? = some v) : v.ownBlock ≠ some t := by
  intro e
  have := h.nd
  simp only [List.nodup_cons, List.mem_cons, not_or] at this
  exact this.2.1 (mem_blocks hv e)
theorem NetRep.a_ne_t {w a t vals to c} (h : NetRep w a t vals to c) : a ≠ t := by
  have := h.nd
  simp only [List.nodup_cons, List.mem_cons, not_or] at this
  exact this.1.1

theorem nodup_set_blocks : ∀ (vals : List Value) (i : Nat) (v v' : Value) (H : Nat), vals[i]? = some v → (v'.ownBlock = v.ownBlock ∨ v'.ownBlock = some H) → (∀ x ∈ vals.filterMap Value.ownBlock, x < H) → (vals.filterMap Value.ownBlock).Nodup →
    ((vals.set i v').filterMap Value.ownBlock).Nodup ∧ ∀ x ∈ (vals.set i v').filterMap Value.ownBlock, x ∈ vals.filterMap Value.ownBlock ∨ x = H := by
  intro vals
  induction vals with
  | nil => intro i v v' H hv; simp at hv
  | cons u r ih =>
    intro i v v' H hv hb hlt hnd
    cases i with
    | zero =>
      simp only [List.getElem?_cons_zero, Option.some.injEq] at hv
      subst hv
      simp only [List.set_cons_zero, List.filterMap_cons] at *
      rcases hb with hb | hb
      · rw [hb]; exact ⟨hnd, fun x hx => .inl hx⟩
      · rw [hb]
        simp only
        cases hu : u.ownBlock with
        | none =>
          simp only [hu] at hlt hnd ⊢
          refine ⟨List.nodup_cons.2 ⟨fun hm => ?_, hnd⟩, fun x hx => ?_⟩
          · have := hlt _ hm; omega
          · rcases List.mem_cons.1 hx with rfl | hx
            · exact .inr rfl
            · exact .inl hx
        | some g =>
          simp only [hu, List.nodup_cons] at hlt hnd ⊢
          refine ⟨⟨fun hm => ?_, hnd.2⟩, fun x hx => ?_⟩
          · have := hlt _ (List.mem_cons_of_mem _ hm); omega
          · rcases List.mem_cons.1 hx with rfl | hx
            · exact .inr rfl
            · exact .inl (List.mem_cons_of_mem _ hx)
    | succ i =>
      simp only [List.getElem?_cons_succ] at hv
      simp only [List.set_cons_succ, List.filterMap_cons] at *
      cases hu : u.ownBlock with
      | none =>
        simp only [hu] at hlt hnd ⊢
        exact ih i v v' H hv hb hlt hnd
      | some g =>
        simp only [hu, List.nodup_cons] at hlt hnd ⊢
        obtain ⟨h1, h2⟩ := ih i v v' H hv hb (fun x hx => hlt x (List.mem_cons_of_mem _ hx)) hnd.2
        refine ⟨⟨fun hm => ?_, h1⟩, fun x hx => ?_⟩
        · rcases h2 _ hm with h3 | h3
          · exact hnd.1 h3
          · have := hlt g (by simp); omega
        · rcases List.mem_cons.1 hx with rfl | hx
          · exact .inl (by simp)
          · rcases h2 _ hx with h3 | h3
            · exact .inl (List.mem_cons_of_mem _ h3)
            · exact .inr h3

theorem rows_apart : ∀ (vals : List Value) (i j : Nat) (v u : Value) (b : Nat), vals[i]? = some v → vals[j]? = some u → i ≠ j → (vals.filterMap Value.ownBlock).Nodup → v.ownBlock = some b → u.ownBlock = some b → False := by
  intro vals
  induction vals with
  | nil => intro i j v u b hv; simp at hv
  | cons x r ih =>
    intro i j v u b hv hu hij hnd e1 e2
    simp only [List.filterMap_cons] at hnd
    have hr : (r.filterMap Value.ownBlock).Nodup := by
      cases hx : x.ownBlock with
      | none => simpa [hx] using hnd
      | some g => simp only [hx, List.nodup_cons] at hnd; exact hnd.2
    cases i with
    | zero =>
      cases j with
      | zero => exact hij rfl
      | succ j =>
        simp only [List.getElem?_cons_zero, Option.some.injEq, List.getElem?_cons_succ] at hv hu
        subst hv
        simp only [e1, List.nodup_cons] at hnd
        exact hnd.1 (mem_blocks hu e2)
    | succ i =>
      cases j with
      | zero =>
        simp only [List.getElem?_cons_zero, Option.some.injEq, List.getElem?_cons_succ] at hv hu
        subst hu
        simp only [e2, List.nodup_cons] at hnd
        exact hnd.1 (mem_blocks hv e1)
      | succ j =>
        simp only [List.getElem?_cons_succ] at hv hu
        exact ih i j v u b hv hu (by omega) hr e1 e2

theorem NetRep.blocks_lt {w a t vals to c} (h : NetRep w a t vals to c) : ∀ x ∈ a :: t :: vals.filterMap Value.ownBlock, x < w.heap.size := by
  intro x hx
  simp only [List.mem_cons, List.mem_filterMap] at hx
  rcases hx with rfl | rfl | ⟨v, hv, hx⟩
  · exact heap_lt h.ha
  · exact heap_lt h.ht
  · obtain ⟨i, hi, rfl⟩ := List.getElem_of_mem hv
    have hi2 : i < to.length := by rw [← h.hl]; exact hi
    exact ((h.hr i _ _ (List.getElem?_eq_getElem hi) (List.getElem?_eq_getElem hi2)).1.lt x hx).2

/-- What a call leaves behind that has put another row in the place of row i, and has counted. -/
theorem NetRep.turned {w w1 : World} {a t vals to c} (h : NetRep w a t vals to c) {i k : Nat} {v v' : Value} {l l' : List Pk} {x : Int} (hv : vals[i]? = some v) (hi : to[i]? = some l)
    (hk : k < 4) (hl' : l'.length ≤ 4096) (hown : w1.ownsRow 0 68 2 v' l'.length (l'.flatMap encPk)) (hkeep : Keeps v.ownBlock.toList w w1) (hat : v'.ownBlock = v.ownBlock ∨ ∃ H, v'.ownBlock = some H ∧ w.heap.size ≤ H) :
    NetRep ((w1.setCell ⟨t, i, none⟩ v').setCell ⟨a, 1 + k, none⟩ (.int .i64 x)) a t (vals.set i v') (to.set i l') (c.set k x) ∧
    Keeps (a :: t :: vals.filterMap Value.ownBlock) w ((w1.setCell ⟨t, i, none⟩ v').setCell ⟨a, 1 + k, none⟩ (.int .i64 x)) := by
  have hane := h.a_ne_t
  have hlt := h.blocks_lt
  have hva : v'.ownBlock ≠ some a := by
    rcases hat with e | ⟨H, e, hH⟩ <;> rw [e]
    · exact h.far_a hv
    · intro e; have := hlt a (by simp); cases e; omega
  have hvt : v'.ownBlock ≠ some t := by
    rcases hat with e | ⟨H, e, hH⟩ <;> rw [e]
    · exact h.far_t hv
    · intro e; have := hlt t (by simp); cases e; omega
  have hnd0 := h.nd
  simp only [List.nodup_cons, List.mem_cons, not_or] at hnd0
  obtain ⟨⟨_, hna⟩, hnt, hnv⟩ := hnd0
  have hsub : ∀ y, v.ownBlock = some y → y ∈ vals.filterMap Value.ownBlock := fun y e => mem_blocks hv e
  have hset : ∃ H, w.heap.size ≤ H ∧ (v'.ownBlock = v.ownBlock ∨ v'.ownBlock = some H) := by
    rcases hat with e | ⟨H, e, hH⟩
    · exact ⟨w.heap.size, Nat.le_refl _, .inl e⟩
    · exact ⟨H, hH, .inr e⟩
  obtain ⟨H, hH, hset⟩ := hset
  obtain ⟨hnd1, hnd2⟩ := nodup_set_blocks vals i v v' H hv hset (fun y hy => by have := hlt y (by simp [hy]); omega) hnv
  refine ⟨⟨?_, ?_, by simp [h.hc], by simp [h.hl], by simpa using h.hn, ?_, ?_⟩, ?_⟩
  · have h1 : w1.heap[a]? = some (.cells (netCells t to.length c).toArray 64 (0, 0)) := hkeep.heap h.ha (by simpa using h.far_a hv)
    have h2 := heap_set_other (a := ⟨t, i, none⟩) (v := v') h1 hane
    have h3 := heap_set_self (o := 1 + k) (v := .int .i64 x) h2
    rw [h3]
    simp only [netCells, List.setIfInBounds_toArray, Option.some.injEq, Obj.cells.injEq, and_true, List.length_set]
    rw [Nat.add_comm 1 k, List.set_cons_succ, List.map_set]
  · have h1 : w1.heap[t]? = some (.cells vals.toArray 73 (0, 0)) := hkeep.heap h.ht (by simpa using h.far_t hv)
    have h2 := heap_set_self (o := i) (v := v') h1
    rw [heap_set_other h2 (Ne.symm hane)]
    simp
  · intro j u m hj hm
    by_cases hij : i = j
    · subst hij
      have hil := (List.getElem?_eq_some_iff.1 hv).1
      have hil' := (List.getElem?_eq_some_iff.1 hi).1
      rw [List.getElem?_set_self hil] at hj
      rw [List.getElem?_set_self hil'] at hm
      cases hj; cases hm
      exact ⟨own_set_other (own_set_other hown _ (by simpa using hvt)) _ (by simpa using hva), hl'⟩
    · rw [List.getElem?_set_ne hij] at hj hm
      obtain ⟨ho, hle⟩ := h.hr j u m hj hm
      refine ⟨own_set_other (own_set_other (own_kept ho hkeep ?_) _ (by simpa using h.far_t hj)) _ (by simpa using h.far_a hj), hle⟩
      intro b hb hmem
      simp only [Option.mem_toList] at hmem
      -- two rows in one block
      exact absurd (rows_apart vals i j v u b hv hj hij hnv hmem hb) id
  · simp only [List.nodup_cons, List.mem_cons, not_or]
    refine ⟨⟨hane, fun hm => ?_⟩, fun hm => ?_, hnd1⟩
    · rcases hnd2 _ hm with h3 | h3
      · exact hna h3
      · have := hlt a (by simp); omega
    · rcases hnd2 _ hm with h3 | h3
      · exact hnt h3
      · have := hlt t (by simp); omega
  · refine ((hkeep.mono ?_).setCell (.inl (by simp)) _).setCell (.inl (by simp)) _
    intro y hy _
    simp only [Option.mem_toList] at hy
    simp [hsub y hy]

set_option maxHeartbeats 400000 in
theorem put_no (a t i : Nat) (vals to c) (l : List Pk) (fr k : Int) (b : ByteArray) (w : World) (h : NetRep w a t vals to c) (hi : to[i]? = some l)
   (hb : 65536 < b.size ∨ 4096 ≤ l.length) :
    Calls Try.prog 20 #[.pointer (some ⟨a, 0, none⟩), .int .i64 i, .agg #[.int .i64 fr, .string b], .int .i64 k] w fun e w' => e = .returned (.int .i64 2) ∧ Keeps [] w w' := by
  have hi' : i < vals.length := by rw [h.hl]; exact (List.getElem?_eq_some_iff.1 hi).1
  have hil : i < to.length := (List.getElem?_eq_some_iff.1 hi).1
  have hn := h.hn
  obtain ⟨v, hv⟩ : ∃ v, vals[i]? = some v := ⟨_, List.getElem?_eq_getElem hi'⟩
  obtain ⟨ho, hle⟩ := h.hr i v l hv hi
  obtain ⟨ao, cap, rfl⟩ := own_form ho
  have h1 := h.cell_to
  have h2 := h.cell_val hv
  have ga := World.block_lt_of_cell? w _ h1
  have gt := World.block_lt_of_cell? w _ h2
  simp only at ga gt
  have hk : Keeps [] w (w.alloc (.cells #[.int .i64 fr, .string b] 68 (0, 0))) := (Keeps.refl _ _).alloc _
  clear h hv hi ho
  by_cases hb' : 65536 < b.size
  · clear hb
    go_enter Try.func20, Try.ntmps20
    go_wp2_with fail
    go_ret
    exact ⟨rfl, hk⟩
  · have hl := hb.resolve_left hb'
    clear hb
    go_enter Try.func20, Try.ntmps20
    go_wp2_with fail
    go_ret
    exact ⟨rfl, hk⟩

set_option maxHeartbeats 400000 in
theorem put_yes (a t i : Nat) (vals to c) (l : List Pk) (fr : Int) (k : Nat) (b : ByteArray) (w : World) (h : NetRep w a t vals to c) (hi : to[i]? = some l)
   (hb : b.size ≤ 65536) (hll : l.length < 4096) (hk : k < 4) :
    Calls Try.prog 20 #[.pointer (some ⟨a, 0, none⟩), .int .i64 i, .agg #[.int .i64 fr, .string b], .int .i64 k] w fun e w' => e = .returned (.int .i64 0) ∧ 
      ∃ v', NetRep w' a t (vals.set i v') (to.set i (l ++ [(fr, b)])) (c.set k (wrap64 (c.getD k 0 + 1))) ∧ Keeps (a :: t :: vals.filterMap Value.ownBlock) w w' ∧ (∀ x ∈ a :: t :: (vals.set i v').filterMap Value.ownBlock, x ∈ a :: t :: vals.filterMap Value.ownBlock ∨ w.heap.size ≤ x) := by
  have hi' : i < vals.length := by rw [h.hl]; exact (List.getElem?_eq_some_iff.1 hi).1
  have hil : i < to.length := (List.getElem?_eq_some_iff.1 hi).1
  have hn := h.hn
  obtain ⟨v, hv⟩ : ∃ v, vals[i]? = some v := ⟨_, List.getElem?_eq_getElem hi'⟩
  obtain ⟨ho, hle⟩ := h.hr i v l hv hi
  obtain ⟨ao, cap, rfl⟩ := own_form ho
  have h1 := h.cell_to
  have h2 := h.cell_val hv
  have ga := World.block_lt_of_cell? w _ h1
  have gt := World.block_lt_of_cell? w _ h2
  simp only at ga gt
  go_enter Try.func20, Try.ntmps20
  go_wp2_with fail
  have hoa : (Value.slice ao l.length cap).ownBlock ≠ some a := by
    intro e
    have := h.nd
    simp only [List.nodup_cons, List.mem_cons, List.mem_filterMap, not_or] at this
    exact this.1.2 ⟨_, List.mem_of_getElem? hv, e⟩
  have hot : (Value.slice ao l.length cap).ownBlock ≠ some t := by
    intro e
    have := h.nd
    simp only [List.nodup_cons, List.mem_cons, List.mem_filterMap, not_or] at this
    exact this.2.1 ⟨_, List.mem_of_getElem? hv, e⟩
  have hlt := ho.lt
  have hol : (Value.slice ao l.length cap).ownBlock ≠ some w.heap.size := by
    intro e
    have := (ho.lt _ e).2
    omega
  have hat0 : a ≠ t := by
    have := h.nd
    simp only [List.nodup_cons, List.mem_cons, not_or] at this
    exact this.1.1
  have hfz : w.frozen? ⟨t, i, none⟩ = false := by simp [World.frozen?, h.ht]
  have Hr := Lib.hid h
  clear h
  refine wp_region_chain (fun w' => w'.cell? ⟨a, 0, none⟩ = some (.slice (some ⟨t, 0, none⟩) to.length to.length) ∧ w'.cell? ⟨t, i, none⟩ = some (.slice ao l.length cap) ∧
      w'.cell? ⟨w.heap.size, 0, none⟩ = some (.int .i64 fr) ∧ w'.cell? ⟨w.heap.size, 1, none⟩ = some (.string b)) [16] [(0, 0), (1, 0), (2, 0), (3, 1), (4, 0), (5, 0), (6, 0), (7, 0), (8, 1), (9, 0), (10, 0), (11, 1), (12, 1), (13, 2), (14, 2), (15, 0), (16, 3)] (by kernel_rfl) (by kernel_rfl) (fun _ d _ _ _ h => by cases d <;> exact h) (by go_simp) ?_
  repeat (first
    | (refine wpC_pure (v := ?_) rfl (by rfl) ?_ ?_
       rotate_left 1
       · (intro w; go_simp; try with_reducible rfl)
       try simp only [Act.put, List.setIfInBounds_toArray, List.set_cons_zero, List.set_cons_succ, List.getElem_toArray, List.getElem_cons_succ, List.getElem_cons_zero])
    | (refine wpC_held (v := ?_) rfl (by rfl) ?_ ?_
       rotate_left 1
       · (rintro w ⟨hs1, hs2, hs3, hs4⟩; go_simp; try with_reducible rfl)
       try simp only [Act.put, List.setIfInBounds_toArray, List.set_cons_zero, List.set_cons_succ, List.getElem_toArray, List.getElem_cons_succ, List.getElem_cons_zero]))
  refine wpC_step rfl (by rfl) (fun K hK => ?_)
  go_simp
  refine hK _ _ (by go_simp) ?_
  clear hK K
  try simp only [Act.put, List.setIfInBounds_toArray, List.set_cons_zero, List.set_cons_succ, List.getElem_toArray, List.getElem_cons_succ, List.getElem_cons_zero]
  refine wpC_step rfl (by rfl) (fun K hK => ?_)
  refine wp_append_any rt73 _ _ (by rfl) 0 _ l.length (l.flatMap encPk) (by rfl) ((ho.alloc _).alloc _) _ 1 [.int .i64 fr, .string b] (by rfl)
       (SlC.of_block (cs := #[.int .i64 fr, .string b]) (t := 68) (fr := (0,0)) (heap_top_drew (by simp)) (by rfl)) (by simp [Value.oneCell']) (by omega) (by unfold maxLen; omega) (by omega) ?_
  intro ao' cp' w1 hown1 hgrow hat hnil
  have hc1 : w1.cell? ⟨a, 0, none⟩ = some (.slice (some ⟨t, 0, none⟩) to.length to.length) := by rw [hgrow.cell_far ⟨a, 0, none⟩ (by simp; omega) (Ne.symm hoa)]; go_simp
  have hc2 : w1.cell? ⟨t, i, none⟩ = some (.slice ao l.length cap) := by rw [hgrow.cell_far ⟨t, i, none⟩ (by simp; omega) (Ne.symm hot)]; go_simp
  have hc3 : w1.cell? ⟨w.heap.size, 0, none⟩ = some (.int .i64 fr) := by rw [hgrow.cell_far ⟨w.heap.size, 0, none⟩ (by simp; omega) (Ne.symm hol)]; go_simp
  have hc4 : w1.cell? ⟨w.heap.size, 1, none⟩ = some (.string b) := by rw [hgrow.cell_far ⟨w.heap.size, 1, none⟩ (by simp; omega) (Ne.symm hol)]; go_simp
  have hz2 : w1.frozen? ⟨t, i, none⟩ = false := by rw [hgrow.frozen_far ⟨t, i, none⟩ (by simp; omega) (Ne.symm hot)]; go_simp
  refine hK _ _ ⟨hc1, hc2, hc3, hc4⟩ ?_
  clear hK K
  try simp only [Act.put, List.setIfInBounds_toArray, List.set_cons_zero, List.set_cons_succ, List.getElem_toArray, List.getElem_cons_succ, List.getElem_cons_zero]
  refine wpC_pure (v := ?_) rfl (by rfl) ?_ ?_
  rotate_left 1
  · (intro w; go_simp; try with_reducible rfl)
  try simp only [Act.put, List.setIfInBounds_toArray, List.set_cons_zero, List.set_cons_succ, List.getElem_toArray, List.getElem_cons_succ, List.getElem_cons_zero]
  refine wpC_last rfl (by rfl) (fun K hK => ?_)
  go_simp
  refine hK _ _ ?_
  clear hK K
  refine wpC_nil ?_
  have hat' : (Value.slice ao' (l.length + 1) cp').ownBlock = (Value.slice ao l.length cap).ownBlock ∨ ∃ H, (Value.slice ao' (l.length + 1) cp').ownBlock = some H ∧ w.heap.size ≤ H := by
    rcases hat with e | e
    · exact .inl e
    · exact .inr ⟨_, e, by simp; omega⟩
  have hkeep : Keeps (Value.slice ao l.length cap).ownBlock.toList w w1 :=
    ((((Keeps.refl _ w).alloc _).alloc _).drew).grown hgrow (fun k hk => .inl (by simp [hk]))
  obtain ⟨hfin, hfk⟩ := Hr.out.turned (l' := l ++ [(fr, b)]) (x := wrap64 (c.getD k 0 + 1)) hv hi hk (by simp; omega) (by simpa [encPk] using hown1) hkeep (by simpa using hat')
  have hlt := Hr.out.blocks_lt
  have hsub : ∀ x ∈ a :: t :: (vals.set i (Value.slice ao' (l.length + 1) cp')).filterMap Value.ownBlock, x ∈ a :: t :: vals.filterMap Value.ownBlock ∨ w.heap.size ≤ x := by
    intro x hx
    have hnv := Hr.out.nd
    simp only [List.nodup_cons] at hnv
    rcases hat' with e | ⟨H, e, hH⟩
    · obtain ⟨_, h2⟩ := nodup_set_blocks vals i _ _ w.heap.size hv (.inl e) (fun y hy => hlt y (by simp [hy])) hnv.2.2
      simp only [List.mem_cons] at hx ⊢
      rcases hx with rfl | rfl | hx
      · exact .inl (.inl rfl)
      · exact .inl (.inr (.inl rfl))
      · rcases h2 x hx with h3 | h3
        · exact .inl (.inr (.inr h3))
        · exact .inr (by omega)
    · obtain ⟨_, h2⟩ := nodup_set_blocks vals i _ _ H hv (.inr e) (fun y hy => by have := hlt y (by simp [hy]); omega) hnv.2.2
      simp only [List.mem_cons] at hx ⊢
      rcases hx with rfl | rfl | hx
      · exact .inl (.inl rfl)
      · exact .inl (.inr (.inl rfl))
      · rcases h2 x hx with h3 | h3
        · exact .inl (.inr (.inr h3))
        · exact .inr (by omega)
  have hck : ((w1.setCell ⟨t, i, none⟩ (.slice ao' (l.length + 1) cp')).cell? ⟨a, 1 + k, none⟩) = some (.int .i64 (c.getD k 0)) := by
    rw [cell_of_row _ a (1 + k) _ _ _ (heap_set_other (a := ⟨t, i, none⟩) (hkeep.heap Hr.out.ha (by simpa using Hr.out.far_a hv)) Hr.out.a_ne_t)]
    have := Hr.out.hc
    simp [netCells, Nat.add_comm 1 k, List.getElem?_map, List.getD_eq_getElem?_getD, List.getElem?_eq_getElem (show k < c.length by omega)]
  have hfk1 : ((w1.setCell ⟨t, i, none⟩ (.slice ao' (l.length + 1) cp')).frozen? ⟨a, 1 + k, none⟩) = false := by
    simp [World.frozen?, (heap_set_other (a := ⟨t, i, none⟩) (v := .slice ao' (l.length + 1) cp') (hkeep.heap Hr.out.ha (by simpa using Hr.out.far_a hv)) Hr.out.a_ne_t)]
  have Hfin := Lib.hid hfin
  have Hfk := Lib.hid hfk
  have Hsub := Lib.hid hsub
  clear hfin hfk hsub hat hat' hnil hc1 hc2 hc3 hc4 hz2 Hr hkeep hlt hoa hot hol h1 h2 hfz
  have Hck := Lib.hid hck
  clear hck
  go_wp2_with fail
  refine (add_any a (1 + k) _ 1 _ Hck.out hfk1).mono ?_
  rintro e w' ⟨rfl, rfl⟩
  go_wp2_with fail
  go_ret
  exact ⟨rfl, _, Hfin.out, Hfk.out, Hsub.out⟩
end Go.Proofs.Ytgkdlpbnhjfkdaa
