/- Contract of the reference's Send. Conditions: those of the theorem. -/
import Derived.Test.YtgkdlpbnhjfkdaaRefC
namespace Go.Proofs.Ytgkdlpbnhjfkdaa
open Go.RowKit

set_option maxRecDepth 100000 in
set_option maxHeartbeats 2000000 in
theorem ref_send_yes {a t vals to c} (fr : Int) (y : Nat) (b : ByteArray) (l : List Pk) (w : World) (h : RefRep w a t vals to c) (hl : to[y]? = some l) (hf : noNode to.length fr = false) (hb : b.size ≤ 65536) (hll : l.length < 4096) :
    Calls Try.prog 22 #[.pointer (some ⟨a, 0, none⟩), .int .i64 fr, .int .i64 y, .string b] w fun e w' => e = .returned (.int .i64 0) ∧
      RefPost w w' a t vals (to.set y (l ++ [(fr, b)])) (c.set 0 (wrap64 (c.getD 0 0 + 1))) := by
  obtain ⟨v, hv, ho, hle⟩ := h.row hl
  have hyl : y < to.length := (List.getElem?_eq_some_iff.1 hl).1
  have hn17 := h.hn
  obtain ⟨ao, cap, rfl⟩ := own_form ho
  have hsl := SlC.of_own ho
  have N1 := Lib.hid (hf ▸ ref_none fr w h)
  have hy : noNode to.length (y : Int) = false := by simp [noNode]; omega
  have N2 := Lib.hid (hy ▸ ref_none (y : Int) w h)
  have ca := h.cell_to
  have cv := h.cell_val hv
  have ga := heap_lt h.ha
  have gt := heap_lt h.ht
  have hat := h.a_ne_t
  have Hr := Lib.hid h
  have Hl := Lib.hid hl
  have Hv := Lib.hid hv
  have Hs := Lib.hid hsl
  clear h hl hv ho hsl hf hy
  go_enter Try.func22, Try.ntmps22
  go_wp2_with fail
  refine N1.out.mono ?_
  rintro e w' ⟨rfl, rfl⟩
  go_wp2_with fail
  refine N2.out.mono ?_
  rintro e w' ⟨rfl, rfl⟩
  clear N1 N2
  go_wp2_with fail
  have b0 : (0 : Int) ≤ (y : Int) := by omega
  have b1 : (y : Int) < (to.length : Int) := by omega
  refine wp_region_tree (fun w' => w'.cell? ⟨a, 0, none⟩ = some (.slice (some ⟨t, 0, none⟩) to.length to.length) ∧ w'.cell? ⟨t, y, none⟩ = some (.slice ao l.length cap)) [20]
    (.op 0 0 (.op 1 0 (.op 2 0 (.op 3 1 (.op 4 0 (.op 6 0 (.op 7 0 (.op 8 0 (.op 9 1 (.op 10 0 (.op 11 0 (.op 12 1 (.op 14 0 (.op 15 0 (.op 16 0 (.alt 5 (.alt 13 (.op 17 2 (.op 18 2 (.op 19 0 (.op 20 3 (.done))))) 17 (.op 13 2 (.op 18 2 (.op 19 0 (.op 20 3 (.done)))))) 17 (.op 5 2 (.op 13 2 (.op 18 2 (.op 19 0 (.op 20 3 (.done)))))))))))))))))))))) (by kernel_rfl) (by kernel_rfl) (fun _ d _ _ _ h => by cases d <;> exact h) (by go_simp) ?_
  repeat (first
    | (refine wpT_pure (v := ?_) rfl (by rfl) ?_ ?_
       rotate_left 1
       · (intro w; go_simp; try with_reducible rfl)
       try simp only [Act.put, List.setIfInBounds_toArray, List.set_cons_zero, List.set_cons_succ, List.getElem_toArray, List.getElem_cons_succ, List.getElem_cons_zero])
    | (refine wpT_held (v := ?_) rfl (by rfl) ?_ ?_
       rotate_left 1
       · (rintro w ⟨hs1, hs2⟩; go_simp; try with_reducible rfl)
       try simp only [Act.put, List.setIfInBounds_toArray, List.set_cons_zero, List.set_cons_succ, List.getElem_toArray, List.getElem_cons_succ, List.getElem_cons_zero]))
  refine wpT_alt rfl rfl (by rfl) (by rfl) (fun K hK => ?_) (fun K hK => ?_)
  · go_simp
    refine hK _ _ (by go_simp) ?_
    clear hK K
    try simp only [Act.put, List.setIfInBounds_toArray, List.set_cons_zero, List.set_cons_succ, List.getElem_toArray, List.getElem_cons_succ, List.getElem_cons_zero]
    refine wpT_alt rfl rfl (by rfl) (by rfl) (fun K hK => ?_) (fun K hK => ?_)
    · refine wp_append_any rt81 _ _ (by rfl) w.heap.size (.slice (some ⟨w.heap.size, 0, none⟩) 0 0) 0 [] (by rfl) (World.ownsRow_made (e := 83) (size := 2) (base := w.heap.size) w #[] 0 (Nat.le_refl _) (by simp [maxLen]) (by simp)) _ l.length (l.flatMap encPk) (by rfl) (Hs.out.keep (S := []) (((Keeps.refl [] w).alloc (.cells #[] 83 (0, 0))).drew) (by simp)) (enc_one _) (by omega) (by unfold maxLen; omega) (by first | (simp; done) | (simp; omega)) ?_
      intro ao1 cp1 w2 hown1 hgrow1 hat1 hnil1
      have hk2 : Keeps [] w w2 := (((Keeps.refl [] w).alloc (.cells #[] 83 (0, 0))).drew).grown hgrow1 (fun k h => .inr (by simp [Value.ownBlock] at h; omega))
      refine hK _ _ ⟨hk2.cell ca (by simp), hk2.cell cv (by simp)⟩ ?_
      clear hK K
      simp only [Nat.zero_add, List.nil_append] at hown1 hat1 ⊢
      try simp only [Act.put, List.setIfInBounds_toArray, List.set_cons_zero, List.set_cons_succ, List.getElem_toArray, List.getElem_cons_succ, List.getElem_cons_zero]
      refine wpT_step rfl (by rfl) (fun K hK => ?_)
      go_simp
      refine hK _ _ ⟨(hk2.alloc (.cells #[.int .i64 fr, .string b] 83 (0, 0))).cell ca (by simp), (hk2.alloc (.cells #[.int .i64 fr, .string b] 83 (0, 0))).cell cv (by simp)⟩ ?_
      clear hK K
      try simp only [Act.put, List.setIfInBounds_toArray, List.set_cons_zero, List.set_cons_succ, List.getElem_toArray, List.getElem_cons_succ, List.getElem_cons_zero]
      refine wpT_step rfl (by rfl) (fun K hK => ?_)
      refine wp_append_any rt81 _ _ (by rfl) w.heap.size _ _ _ (by rfl) (hown1.alloc _) _ 1 [.int .i64 fr, .string b] (by rfl) (SlC.of_block (cs := #[.int .i64 fr, .string b]) (t := 83) (fr := (0, 0)) (heap_alloc_new _ _) (by rfl)) (by simp [Value.oneCell']) (by omega) (by unfold maxLen; omega) (by have := hk2.size; simp; omega) ?_
      intro ao3 cp3 w3 hown3 hgrow3 hat3 hnil3
      have hob1 : ∀ k, (Value.slice ao1 l.length cp1).ownBlock = some k → w.heap.size ≤ k := fun k h => (hown1.lt k h).1
      have hk3 : Keeps [] w w3 := (hk2.alloc (.cells #[.int .i64 fr, .string b] 83 (0, 0))).grown hgrow3 (fun k h => .inr (hob1 k h))
      refine hK _ _ ⟨hk3.cell ca (by simp), hk3.cell cv (by simp)⟩ ?_
      clear hK K
      have hlen : (l ++ [(fr, b)]).length = l.length + 1 := by simp
      have hst := Hr.out.rowed (w1 := w3) (v' := .slice ao3 (l.length + 1) cp3) (l' := l ++ [(fr, b)]) Hv.out Hl.out (by simp; omega) (by rw [hlen]; simpa [encPk] using own_base hown3 (Nat.zero_le _)) (hk3.mono (by simp)) (by
        cases hb3 : (Value.slice ao3 (l.length + 1) cp3).ownBlock with
        | none => exact .inr (.inl rfl)
        | some b => exact .inr (.inr ⟨b, rfl, (hown3.lt b hb3).1⟩))
      have zt : w3.frozen? ⟨t, y, none⟩ = false := by simp [World.frozen?, hk3.heap Hr.out.ht (by simp)]
      have ct3 := hk3.cell cv (by simp)
      have hct := hst.1.counted (k := 0) (wrap64 (c.getD 0 0 + 1))
      have hcell := hst.1.cell_c (k := 0) (by omega)
      have hfz : (w3.setCell ⟨t, y, none⟩ (.slice ao3 (l.length + 1) cp3)).frozen? ⟨a, 1 + 0, none⟩ = false := by simp [World.frozen?, hst.1.ha]
      have hfin : ∀ w' : World, Keeps [] ((w3.setCell ⟨t, y, none⟩ (.slice ao3 (l.length + 1) cp3)).setCell ⟨a, 1 + 0, none⟩ (.int .i64 (wrap64 (c.getD 0 0 + 1)))) w' → RefPost w w' a t vals (to.set y (l ++ [(fr, b)])) (c.set 0 (wrap64 (c.getD 0 0 + 1))) := fun w' hk' =>
        ⟨_, hct.1.keep hk' (by simp), (hst.2.trans hct.2).trans (NetStep.same hk')⟩
      have Hfin := Lib.hid hfin
      have Hcell := Lib.hid hcell
      clear hfin hst hct hcell hlen hown3 hgrow3 hat3 hnil3 hown1 hgrow1 hat1 hnil1 hob1 hk2 ca cv
      try simp only [Nat.zero_add]
      repeat (first
        | (refine wpT_pure (v := ?_) rfl (by rfl) ?_ ?_
           rotate_left 1
           · (intro w; go_simp; try with_reducible rfl)
           try simp only [Act.put, List.setIfInBounds_toArray, List.set_cons_zero, List.set_cons_succ, List.getElem_toArray, List.getElem_cons_succ, List.getElem_cons_zero])
        | (refine wpT_held (v := ?_) rfl (by rfl) ?_ ?_
           rotate_left 1
           · (rintro w ⟨hs1, hs2⟩; go_simp; try with_reducible rfl)
           try simp only [Act.put, List.setIfInBounds_toArray, List.set_cons_zero, List.set_cons_succ, List.getElem_toArray, List.getElem_cons_succ, List.getElem_cons_zero]))
      refine wpT_last rfl (by rfl) (fun K hK => ?_)
      go_simp
      refine hK _ _ ?_
      clear hK K
      refine wpT_done ?_
      clear zt ct3
      have hcell := Hcell.out
      have hfz' := hfz
      go_wp2_with fail
      refine wp_region_chain (fun w' => w'.cell? ⟨a, 1 + 0, none⟩ = some (.int .i64 (c.getD 0 0))) [9] [(0, 0), (1, 0), (2, 0), (3, 0), (4, 1), (5, 0), (6, 0), (7, 0), (8, 0), (9, 3)] (by kernel_rfl) (by kernel_rfl) (fun _ d _ _ _ h => by cases d <;> exact h) (by go_simp) ?_
      repeat (first
        | (refine wpC_pure (v := ?_) rfl (by rfl) ?_ ?_
           rotate_left 1
           · (intro w; go_simp; try with_reducible rfl)
           try simp only [Act.put, List.setIfInBounds_toArray, List.set_cons_zero, List.set_cons_succ, List.getElem_toArray, List.getElem_cons_succ, List.getElem_cons_zero])
        | (refine wpC_held (v := ?_) rfl (by rfl) ?_ ?_
           rotate_left 1
           · (rintro w hs1; go_simp; try with_reducible rfl)
           try simp only [Act.put, List.setIfInBounds_toArray, List.set_cons_zero, List.set_cons_succ, List.getElem_toArray, List.getElem_cons_succ, List.getElem_cons_zero]))
      refine wpC_last rfl (by rfl) (fun K hK => ?_)
      go_simp
      refine hK _ _ ?_
      clear hK K
      refine wpC_nil ?_
      go_wp2_with fail
      go_ret
      exact ⟨rfl, Hfin.out _ (by rw [show IntKind.i64.wrap (c[0]?.getD 0 + 1) = wrap64 (c.getD 0 0 + 1) from wrap_eq _]; repeat (first | exact Keeps.refl [] _ | refine Keeps.drew ?_))⟩
    · go_simp
      refine hK _ _ (by go_simp) ?_
      clear hK K
      try simp only [Act.put, List.setIfInBounds_toArray, List.set_cons_zero, List.set_cons_succ, List.getElem_toArray, List.getElem_cons_succ, List.getElem_cons_zero]
      refine wpT_step rfl (by rfl) (fun K hK => ?_)
      refine wp_append_any rt81 _ _ (by rfl) w.heap.size (.slice (some ⟨w.heap.size, 0, none⟩) 0 0) 0 [] (by rfl) ((World.ownsRow_made (e := 83) (size := 2) (base := w.heap.size) w #[] 0 (Nat.le_refl _) (by simp [maxLen]) (by simp)).alloc (.cells #[.int .i64 fr, .string b] 83 (0, 0))) _ l.length (l.flatMap encPk) (by rfl) (Hs.out.keep (S := []) ((((Keeps.refl [] w).alloc (.cells #[] 83 (0, 0))).alloc (.cells #[.int .i64 fr, .string b] 83 (0, 0))).drew) (by simp)) (enc_one _) (by omega) (by unfold maxLen; omega) (by first | (simp; done) | (simp; omega)) ?_
      intro ao1 cp1 w2 hown1 hgrow1 hat1 hnil1
      have hk2 : Keeps [] w w2 := ((((Keeps.refl [] w).alloc (.cells #[] 83 (0, 0))).alloc (.cells #[.int .i64 fr, .string b] 83 (0, 0))).drew).grown hgrow1 (fun k h => .inr (by simp [Value.ownBlock] at h; omega))
      refine hK _ _ ⟨hk2.cell ca (by simp), hk2.cell cv (by simp)⟩ ?_
      clear hK K
      simp only [Nat.zero_add, List.nil_append] at hown1 hat1 ⊢
      have hBL : ((w.alloc (.cells #[] 83 (0, 0))).alloc (.cells #[.int .i64 fr, .string b] 83 (0, 0))).drew.heap[w.heap.size + 1]? = some (.cells #[.int .i64 fr, .string b] 83 (0, 0)) := heap_top_drew (by simp)
      have hBL2 := (hgrow1.block (w.heap.size + 1) (by simp) (by simp [Value.ownBlock])).trans hBL
      try simp only [Act.put, List.setIfInBounds_toArray, List.set_cons_zero, List.set_cons_succ, List.getElem_toArray, List.getElem_cons_succ, List.getElem_cons_zero]
      refine wpT_step rfl (by rfl) (fun K hK => ?_)
      refine wp_append_any rt81 _ _ (by rfl) w.heap.size _ _ _ (by rfl) (hown1) _ 1 [.int .i64 fr, .string b] (by rfl) (SlC.of_block (cs := #[.int .i64 fr, .string b]) (t := 83) (fr := (0, 0)) hBL2 (by rfl)) (by simp [Value.oneCell']) (by omega) (by unfold maxLen; omega) (by have := hk2.size; simp; omega) ?_
      intro ao3 cp3 w3 hown3 hgrow3 hat3 hnil3
      have hob1 : ∀ k, (Value.slice ao1 l.length cp1).ownBlock = some k → w.heap.size ≤ k := fun k h => (hown1.lt k h).1
      have hk3 : Keeps [] w w3 := (hk2).grown hgrow3 (fun k h => .inr (hob1 k h))
      refine hK _ _ ⟨hk3.cell ca (by simp), hk3.cell cv (by simp)⟩ ?_
      clear hK K
      have hlen : (l ++ [(fr, b)]).length = l.length + 1 := by simp
      have hst := Hr.out.rowed (w1 := w3) (v' := .slice ao3 (l.length + 1) cp3) (l' := l ++ [(fr, b)]) Hv.out Hl.out (by simp; omega) (by rw [hlen]; simpa [encPk] using own_base hown3 (Nat.zero_le _)) (hk3.mono (by simp)) (by
        cases hb3 : (Value.slice ao3 (l.length + 1) cp3).ownBlock with
        | none => exact .inr (.inl rfl)
        | some b => exact .inr (.inr ⟨b, rfl, (hown3.lt b hb3).1⟩))
      have zt : w3.frozen? ⟨t, y, none⟩ = false := by simp [World.frozen?, hk3.heap Hr.out.ht (by simp)]
      have ct3 := hk3.cell cv (by simp)
      have hct := hst.1.counted (k := 0) (wrap64 (c.getD 0 0 + 1))
      have hcell := hst.1.cell_c (k := 0) (by omega)
      have hfz : (w3.setCell ⟨t, y, none⟩ (.slice ao3 (l.length + 1) cp3)).frozen? ⟨a, 1 + 0, none⟩ = false := by simp [World.frozen?, hst.1.ha]
      have hfin : ∀ w' : World, Keeps [] ((w3.setCell ⟨t, y, none⟩ (.slice ao3 (l.length + 1) cp3)).setCell ⟨a, 1 + 0, none⟩ (.int .i64 (wrap64 (c.getD 0 0 + 1)))) w' → RefPost w w' a t vals (to.set y (l ++ [(fr, b)])) (c.set 0 (wrap64 (c.getD 0 0 + 1))) := fun w' hk' =>
        ⟨_, hct.1.keep hk' (by simp), (hst.2.trans hct.2).trans (NetStep.same hk')⟩
      have Hfin := Lib.hid hfin
      have Hcell := Lib.hid hcell
      clear hfin hst hct hcell hlen hown3 hgrow3 hat3 hnil3 hown1 hgrow1 hat1 hnil1 hob1 hk2 ca cv
      try simp only [Nat.zero_add]
      repeat (first
        | (refine wpT_pure (v := ?_) rfl (by rfl) ?_ ?_
           rotate_left 1
           · (intro w; go_simp; try with_reducible rfl)
           try simp only [Act.put, List.setIfInBounds_toArray, List.set_cons_zero, List.set_cons_succ, List.getElem_toArray, List.getElem_cons_succ, List.getElem_cons_zero])
        | (refine wpT_held (v := ?_) rfl (by rfl) ?_ ?_
           rotate_left 1
           · (rintro w ⟨hs1, hs2⟩; go_simp; try with_reducible rfl)
           try simp only [Act.put, List.setIfInBounds_toArray, List.set_cons_zero, List.set_cons_succ, List.getElem_toArray, List.getElem_cons_succ, List.getElem_cons_zero]))
      refine wpT_last rfl (by rfl) (fun K hK => ?_)
      go_simp
      refine hK _ _ ?_
      clear hK K
      refine wpT_done ?_
      clear zt ct3
      have hcell := Hcell.out
      have hfz' := hfz
      go_wp2_with fail
      refine wp_region_chain (fun w' => w'.cell? ⟨a, 1 + 0, none⟩ = some (.int .i64 (c.getD 0 0))) [9] [(0, 0), (1, 0), (2, 0), (3, 0), (4, 1), (5, 0), (6, 0), (7, 0), (8, 0), (9, 3)] (by kernel_rfl) (by kernel_rfl) (fun _ d _ _ _ h => by cases d <;> exact h) (by go_simp) ?_
      repeat (first
        | (refine wpC_pure (v := ?_) rfl (by rfl) ?_ ?_
           rotate_left 1
           · (intro w; go_simp; try with_reducible rfl)
           try simp only [Act.put, List.setIfInBounds_toArray, List.set_cons_zero, List.set_cons_succ, List.getElem_toArray, List.getElem_cons_succ, List.getElem_cons_zero])
        | (refine wpC_held (v := ?_) rfl (by rfl) ?_ ?_
           rotate_left 1
           · (rintro w hs1; go_simp; try with_reducible rfl)
           try simp only [Act.put, List.setIfInBounds_toArray, List.set_cons_zero, List.set_cons_succ, List.getElem_toArray, List.getElem_cons_succ, List.getElem_cons_zero]))
      refine wpC_last rfl (by rfl) (fun K hK => ?_)
      go_simp
      refine hK _ _ ?_
      clear hK K
      refine wpC_nil ?_
      go_wp2_with fail
      go_ret
      exact ⟨rfl, Hfin.out _ (by rw [show IntKind.i64.wrap (c[0]?.getD 0 + 1) = wrap64 (c.getD 0 0 + 1) from wrap_eq _]; repeat (first | exact Keeps.refl [] _ | refine Keeps.drew ?_))⟩
  · go_simp
    refine hK _ _ (by go_simp) ?_
    clear hK K
    try simp only [Act.put, List.setIfInBounds_toArray, List.set_cons_zero, List.set_cons_succ, List.getElem_toArray, List.getElem_cons_succ, List.getElem_cons_zero]
    refine wpT_step rfl (by rfl) (fun K hK => ?_)
    go_simp
    refine hK _ _ (by go_simp) ?_
    clear hK K
    try simp only [Act.put, List.setIfInBounds_toArray, List.set_cons_zero, List.set_cons_succ, List.getElem_toArray, List.getElem_cons_succ, List.getElem_cons_zero]
    refine wpT_step rfl (by rfl) (fun K hK => ?_)
    refine wp_append_any rt81 _ _ (by rfl) w.heap.size (.slice (some ⟨w.heap.size + 1, 0, none⟩) 0 0) 0 [] (by rfl) ((by have h := World.ownsRow_made (e := 83) (size := 2) (base := w.heap.size) (w.alloc (.cells #[.int .i64 fr, .string b] 83 (0, 0))) #[] 0 (by simp) (by simp [maxLen]) (by simp); rw [World.size_alloc] at h; exact h)) _ l.length (l.flatMap encPk) (by rfl) (Hs.out.keep (S := []) ((((Keeps.refl [] w).alloc (.cells #[.int .i64 fr, .string b] 83 (0, 0))).alloc (.cells #[] 83 (0, 0))).drew) (by simp)) (enc_one _) (by omega) (by unfold maxLen; omega) (by first | (simp; done) | (simp; omega)) ?_
    intro ao1 cp1 w2 hown1 hgrow1 hat1 hnil1
    have hk2 : Keeps [] w w2 := ((((Keeps.refl [] w).alloc (.cells #[.int .i64 fr, .string b] 83 (0, 0))).alloc (.cells #[] 83 (0, 0))).drew).grown hgrow1 (fun k h => .inr (by simp [Value.ownBlock] at h; omega))
    refine hK _ _ ⟨hk2.cell ca (by simp), hk2.cell cv (by simp)⟩ ?_
    clear hK K
    simp only [Nat.zero_add, List.nil_append] at hown1 hat1 ⊢
    have hBL : ((w.alloc (.cells #[.int .i64 fr, .string b] 83 (0, 0))).alloc (.cells #[] 83 (0, 0))).drew.heap[w.heap.size]? = some (.cells #[.int .i64 fr, .string b] 83 (0, 0)) := (Below.heap_alloc _ _ _ (by simp)).trans (heap_alloc_new _ _)
    have hBL2 := (hgrow1.block w.heap.size (by simp; omega) (by simp [Value.ownBlock])).trans hBL
    try simp only [Act.put, List.setIfInBounds_toArray, List.set_cons_zero, List.set_cons_succ, List.getElem_toArray, List.getElem_cons_succ, List.getElem_cons_zero]
    refine wpT_step rfl (by rfl) (fun K hK => ?_)
    refine wp_append_any rt81 _ _ (by rfl) w.heap.size _ _ _ (by rfl) (hown1) _ 1 [.int .i64 fr, .string b] (by rfl) (SlC.of_block (cs := #[.int .i64 fr, .string b]) (t := 83) (fr := (0, 0)) hBL2 (by rfl)) (by simp [Value.oneCell']) (by omega) (by unfold maxLen; omega) (by have := hk2.size; simp; omega) ?_
    intro ao3 cp3 w3 hown3 hgrow3 hat3 hnil3
    have hob1 : ∀ k, (Value.slice ao1 l.length cp1).ownBlock = some k → w.heap.size ≤ k := fun k h => (hown1.lt k h).1
    have hk3 : Keeps [] w w3 := (hk2).grown hgrow3 (fun k h => .inr (hob1 k h))
    refine hK _ _ ⟨hk3.cell ca (by simp), hk3.cell cv (by simp)⟩ ?_
    clear hK K
    have hlen : (l ++ [(fr, b)]).length = l.length + 1 := by simp
    have hst := Hr.out.rowed (w1 := w3) (v' := .slice ao3 (l.length + 1) cp3) (l' := l ++ [(fr, b)]) Hv.out Hl.out (by simp; omega) (by rw [hlen]; simpa [encPk] using own_base hown3 (Nat.zero_le _)) (hk3.mono (by simp)) (by
      cases hb3 : (Value.slice ao3 (l.length + 1) cp3).ownBlock with
      | none => exact .inr (.inl rfl)
      | some b => exact .inr (.inr ⟨b, rfl, (hown3.lt b hb3).1⟩))
    have zt : w3.frozen? ⟨t, y, none⟩ = false := by simp [World.frozen?, hk3.heap Hr.out.ht (by simp)]
    have ct3 := hk3.cell cv (by simp)
    have hct := hst.1.counted (k := 0) (wrap64 (c.getD 0 0 + 1))
    have hcell := hst.1.cell_c (k := 0) (by omega)
    have hfz : (w3.setCell ⟨t, y, none⟩ (.slice ao3 (l.length + 1) cp3)).frozen? ⟨a, 1 + 0, none⟩ = false := by simp [World.frozen?, hst.1.ha]
    have hfin : ∀ w' : World, Keeps [] ((w3.setCell ⟨t, y, none⟩ (.slice ao3 (l.length + 1) cp3)).setCell ⟨a, 1 + 0, none⟩ (.int .i64 (wrap64 (c.getD 0 0 + 1)))) w' → RefPost w w' a t vals (to.set y (l ++ [(fr, b)])) (c.set 0 (wrap64 (c.getD 0 0 + 1))) := fun w' hk' =>
      ⟨_, hct.1.keep hk' (by simp), (hst.2.trans hct.2).trans (NetStep.same hk')⟩
    have Hfin := Lib.hid hfin
    have Hcell := Lib.hid hcell
    clear hfin hst hct hcell hlen hown3 hgrow3 hat3 hnil3 hown1 hgrow1 hat1 hnil1 hob1 hk2 ca cv
    try simp only [Nat.zero_add]
    repeat (first
      | (refine wpT_pure (v := ?_) rfl (by rfl) ?_ ?_
         rotate_left 1
         · (intro w; go_simp; try with_reducible rfl)
         try simp only [Act.put, List.setIfInBounds_toArray, List.set_cons_zero, List.set_cons_succ, List.getElem_toArray, List.getElem_cons_succ, List.getElem_cons_zero])
      | (refine wpT_held (v := ?_) rfl (by rfl) ?_ ?_
         rotate_left 1
         · (rintro w ⟨hs1, hs2⟩; go_simp; try with_reducible rfl)
         try simp only [Act.put, List.setIfInBounds_toArray, List.set_cons_zero, List.set_cons_succ, List.getElem_toArray, List.getElem_cons_succ, List.getElem_cons_zero]))
    refine wpT_last rfl (by rfl) (fun K hK => ?_)
    go_simp
    refine hK _ _ ?_
    clear hK K
    refine wpT_done ?_
    clear zt ct3
    have hcell := Hcell.out
    have hfz' := hfz
    go_wp2_with fail
    refine wp_region_chain (fun w' => w'.cell? ⟨a, 1 + 0, none⟩ = some (.int .i64 (c.getD 0 0))) [9] [(0, 0), (1, 0), (2, 0), (3, 0), (4, 1), (5, 0), (6, 0), (7, 0), (8, 0), (9, 3)] (by kernel_rfl) (by kernel_rfl) (fun _ d _ _ _ h => by cases d <;> exact h) (by go_simp) ?_
    repeat (first
      | (refine wpC_pure (v := ?_) rfl (by rfl) ?_ ?_
         rotate_left 1
         · (intro w; go_simp; try with_reducible rfl)
         try simp only [Act.put, List.setIfInBounds_toArray, List.set_cons_zero, List.set_cons_succ, List.getElem_toArray, List.getElem_cons_succ, List.getElem_cons_zero])
      | (refine wpC_held (v := ?_) rfl (by rfl) ?_ ?_
         rotate_left 1
         · (rintro w hs1; go_simp; try with_reducible rfl)
         try simp only [Act.put, List.setIfInBounds_toArray, List.set_cons_zero, List.set_cons_succ, List.getElem_toArray, List.getElem_cons_succ, List.getElem_cons_zero]))
    refine wpC_last rfl (by rfl) (fun K hK => ?_)
    go_simp
    refine hK _ _ ?_
    clear hK K
    refine wpC_nil ?_
    go_wp2_with fail
    go_ret
    exact ⟨rfl, Hfin.out _ (by rw [show IntKind.i64.wrap (c[0]?.getD 0 + 1) = wrap64 (c.getD 0 0 + 1) from wrap_eq _]; repeat (first | exact Keeps.refl [] _ | refine Keeps.drew ?_))⟩

end Go.Proofs.Ytgkdlpbnhjfkdaa
