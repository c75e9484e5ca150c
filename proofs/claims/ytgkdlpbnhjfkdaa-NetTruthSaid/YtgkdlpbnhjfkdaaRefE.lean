/- Contracts of the reference's Send and Copy, every way. Conditions: those of each theorem. -/
import Derived.Test.YtgkdlpbnhjfkdaaRefD
namespace Go.Proofs.Ytgkdlpbnhjfkdaa
open Go.RowKit

theorem RefPost.pre {w w1 w' : World} {a t vals to c} (h : RefPost w1 w' a t vals to c) (k : Keeps [] w w1) : RefPost w w' a t vals to c := by
  obtain ⟨v, h1, h2⟩ := h
  exact ⟨v, h1, (NetStep.same k).trans h2⟩

set_option maxRecDepth 100000 in
set_option maxHeartbeats 2000000 in
theorem ref_copy_yes {a t vals to c} (y j : Nat) (fr : Int) (b : ByteArray) (l : List Pk) (w : World) (h : RefRep w a t vals to c) (hl : to[y]? = some l) (hg : getM to y j = ((fr, b), 0)) (hll : l.length < 4096) :
    Calls Try.prog 25 #[.pointer (some ⟨a, 0, none⟩), .int .i64 y, .int .i64 j] w fun e w' => e = .returned (.int .i64 0) ∧
      RefPost w w' a t vals (to.set y (l ++ [(fr, b)])) (c.set 2 (wrap64 (c.getD 2 0 + 1))) := by
  have H := Lib.hid (hg ▸ ref_get (y : Int) (j : Int) w h)
  clear hg
  obtain ⟨v, hv, ho, hle⟩ := h.row hl
  have hyl : y < to.length := (List.getElem?_eq_some_iff.1 hl).1
  have hn17 := h.hn
  obtain ⟨ao, cap, rfl⟩ := own_form ho
  have hat := h.a_ne_t
  have h0 := Lib.hid h
  have Hl := Lib.hid hl
  have Hv := Lib.hid hv
  have Ho := Lib.hid ho
  have hne' : ((0 : Int) != 0) = false := rfl
  clear h hl hv ho
  go_enter Try.func25, Try.ntmps25
  go_wp2_with fail
  refine H.out.mono ?_
  rintro e w1 ⟨rfl, hk⟩
  clear H
  have hkz : Keeps [] w (w1.alloc (.cells #[.int .i64 fr, .string b] 83 (0, 0))) := hk.alloc _
  have bz : (w1.alloc (.cells #[.int .i64 fr, .string b] 83 (0, 0))).heap[w1.heap.size]? = some (.cells #[.int .i64 fr, .string b] 83 (0, 0)) := heap_alloc_new _ _
  have hRz := h0.out.keep hkz (by simp)
  have ca := hRz.cell_to
  have cv := hRz.cell_val Hv.out
  have c0 : (w1.alloc (.cells #[.int .i64 fr, .string b] 83 (0, 0))).cell? ⟨w1.heap.size, 0, none⟩ = some (.int .i64 fr) := (cell_of_row _ w1.heap.size 0 _ _ _ bz).trans rfl
  have c1 : (w1.alloc (.cells #[.int .i64 fr, .string b] 83 (0, 0))).cell? ⟨w1.heap.size, 1, none⟩ = some (.string b) := (cell_of_row _ w1.heap.size 1 _ _ _ bz).trans rfl
  have ga := heap_lt hRz.ha
  have gt := heap_lt hRz.ht
  have g1 : w1.heap.size < (w1.alloc (.cells #[.int .i64 fr, .string b] 83 (0, 0))).heap.size := heap_lt bz
  have Hr := Lib.hid hRz
  have hsl := SlC.of_own (own_kept Ho.out hkz (by simp))
  have Hs := Lib.hid hsl
  have Hkz := Lib.hid hkz
  clear hRz hsl hk bz hkz h0 Ho
  go_wp2_with fail
  generalize w1.alloc (.cells #[.int .i64 fr, .string b] 83 (0, 0)) = wz at *
  have b0 : (0 : Int) ≤ (y : Int) := by omega
  have b1 : (y : Int) < (to.length : Int) := by omega
  refine wp_region_tree (fun w' => w'.cell? ⟨a, 0, none⟩ = some (.slice (some ⟨t, 0, none⟩) to.length to.length) ∧ w'.cell? ⟨t, y, none⟩ = some (.slice ao l.length cap) ∧ w'.cell? ⟨w1.heap.size, 0, none⟩ = some (.int .i64 fr) ∧ w'.cell? ⟨w1.heap.size, 1, none⟩ = some (.string b)) [18]
    (.op 0 0 (.op 1 0 (.op 2 0 (.op 3 1 (.op 4 0 (.op 6 0 (.op 7 0 (.op 8 0 (.op 9 1 (.op 10 0 (.op 11 0 (.op 12 1 (.op 14 1 (.alt 5 (.alt 13 (.op 15 2 (.op 16 2 (.op 17 0 (.op 18 3 (.done))))) 15 (.op 13 2 (.op 16 2 (.op 17 0 (.op 18 3 (.done)))))) 15 (.op 5 2 (.op 13 2 (.op 16 2 (.op 17 0 (.op 18 3 (.done)))))))))))))))))))) (by kernel_rfl) (by kernel_rfl) (fun _ d _ _ _ h => by cases d <;> exact h) (by go_simp) ?_
  repeat (first
    | (refine wpT_pure (v := ?_) rfl (by rfl) ?_ ?_
       rotate_left 1
       · (intro w; go_simp; try with_reducible rfl)
       try simp only [Act.put, List.setIfInBounds_toArray, List.set_cons_zero, List.set_cons_succ, List.getElem_toArray, List.getElem_cons_succ, List.getElem_cons_zero])
    | (refine wpT_held (v := ?_) rfl (by rfl) ?_ ?_
       rotate_left 1
       · (rintro w ⟨hs1, hs2, hs3, hs4⟩; go_simp; try with_reducible rfl)
       try simp only [Act.put, List.setIfInBounds_toArray, List.set_cons_zero, List.set_cons_succ, List.getElem_toArray, List.getElem_cons_succ, List.getElem_cons_zero]))
  refine wpT_alt rfl rfl (by rfl) (by rfl) (fun K hK => ?_) (fun K hK => ?_)
  · go_simp
    refine hK _ _ (by go_simp) ?_
    clear hK K
    try simp only [Act.put, List.setIfInBounds_toArray, List.set_cons_zero, List.set_cons_succ, List.getElem_toArray, List.getElem_cons_succ, List.getElem_cons_zero]
    refine wpT_alt rfl rfl (by rfl) (by rfl) (fun K hK => ?_) (fun K hK => ?_)
    · refine wp_append_any rt81 _ _ (by rfl) wz.heap.size (.slice (some ⟨wz.heap.size, 0, none⟩) 0 0) 0 [] (by rfl) (World.ownsRow_made (e := 83) (size := 2) (base := wz.heap.size) wz #[] 0 (Nat.le_refl _) (by simp [maxLen]) (by simp)) _ l.length (l.flatMap encPk) (by rfl) (Hs.out.keep (S := []) (((Keeps.refl [] wz).alloc (.cells #[] 83 (0, 0))).drew) (by simp)) (enc_one _) (by omega) (by unfold maxLen; omega) (by first | (simp; done) | (simp; omega)) ?_
      intro ao1 cp1 w2 hown1 hgrow1 hat1 hnil1
      have hk2 : Keeps [] wz w2 := (((Keeps.refl [] wz).alloc (.cells #[] 83 (0, 0))).drew).grown hgrow1 (fun k h => .inr (by simp [Value.ownBlock] at h; omega))
      refine hK _ _ ⟨hk2.cell ca (by simp), hk2.cell cv (by simp), hk2.cell c0 (by simp), hk2.cell c1 (by simp)⟩ ?_
      clear hK K
      simp only [Nat.zero_add, List.nil_append] at hown1 hat1 ⊢
      try simp only [Act.put, List.setIfInBounds_toArray, List.set_cons_zero, List.set_cons_succ, List.getElem_toArray, List.getElem_cons_succ, List.getElem_cons_zero]
      refine wpT_step rfl (by rfl) (fun K hK => ?_)
      go_simp
      refine hK _ _ ⟨(hk2.alloc (.cells #[.int .i64 fr, .string b] 83 (0, 0))).cell ca (by simp), (hk2.alloc (.cells #[.int .i64 fr, .string b] 83 (0, 0))).cell cv (by simp), (hk2.alloc (.cells #[.int .i64 fr, .string b] 83 (0, 0))).cell c0 (by simp), (hk2.alloc (.cells #[.int .i64 fr, .string b] 83 (0, 0))).cell c1 (by simp)⟩ ?_
      clear hK K
      try simp only [Act.put, List.setIfInBounds_toArray, List.set_cons_zero, List.set_cons_succ, List.getElem_toArray, List.getElem_cons_succ, List.getElem_cons_zero]
      refine wpT_step rfl (by rfl) (fun K hK => ?_)
      refine wp_append_any rt81 _ _ (by rfl) wz.heap.size _ _ _ (by rfl) (hown1.alloc _) _ 1 [.int .i64 fr, .string b] (by rfl) (SlC.of_block (cs := #[.int .i64 fr, .string b]) (t := 83) (fr := (0, 0)) (heap_alloc_new _ _) (by rfl)) (by simp [Value.oneCell']) (by omega) (by unfold maxLen; omega) (by have := hk2.size; simp; omega) ?_
      intro ao3 cp3 w3 hown3 hgrow3 hat3 hnil3
      have hob1 : ∀ k, (Value.slice ao1 l.length cp1).ownBlock = some k → wz.heap.size ≤ k := fun k h => (hown1.lt k h).1
      have hk3 : Keeps [] wz w3 := (hk2.alloc (.cells #[.int .i64 fr, .string b] 83 (0, 0))).grown hgrow3 (fun k h => .inr (hob1 k h))
      refine hK _ _ ⟨hk3.cell ca (by simp), hk3.cell cv (by simp), hk3.cell c0 (by simp), hk3.cell c1 (by simp)⟩ ?_
      clear hK K
      have hlen : (l ++ [(fr, b)]).length = l.length + 1 := by simp
      have hst := Hr.out.rowed (w1 := w3) (v' := .slice ao3 (l.length + 1) cp3) (l' := l ++ [(fr, b)]) Hv.out Hl.out (by simp; omega) (by rw [hlen]; simpa [encPk] using own_base hown3 (Nat.zero_le _)) (hk3.mono (by simp)) (by
        cases hb3 : (Value.slice ao3 (l.length + 1) cp3).ownBlock with
        | none => exact .inr (.inl rfl)
        | some b => exact .inr (.inr ⟨b, rfl, (hown3.lt b hb3).1⟩))
      have zt : w3.frozen? ⟨t, y, none⟩ = false := by simp [World.frozen?, hk3.heap Hr.out.ht (by simp)]
      have ct3 := hk3.cell cv (by simp)
      have hct := hst.1.counted (k := 2) (wrap64 (c.getD 2 0 + 1))
      have hcell := hst.1.cell_c (k := 2) (by omega)
      have hfz : (w3.setCell ⟨t, y, none⟩ (.slice ao3 (l.length + 1) cp3)).frozen? ⟨a, 1 + 2, none⟩ = false := by simp [World.frozen?, hst.1.ha]
      have hfin : ∀ wz' : World, Keeps [] ((w3.setCell ⟨t, y, none⟩ (.slice ao3 (l.length + 1) cp3)).setCell ⟨a, 1 + 2, none⟩ (.int .i64 (wrap64 (c.getD 2 0 + 1)))) wz' → RefPost wz wz' a t vals (to.set y (l ++ [(fr, b)])) (c.set 2 (wrap64 (c.getD 2 0 + 1))) := fun wz' hk' =>
        ⟨_, hct.1.keep hk' (by simp), (hst.2.trans hct.2).trans (NetStep.same hk')⟩
      have Hfin := Lib.hid hfin
      have Hcell := Lib.hid hcell
      clear hfin hst hct hcell hlen hown3 hgrow3 hat3 hnil3 hown1 hgrow1 hat1 hnil1 hob1 hk2 ca cv c0 c1
      try simp only [Nat.zero_add]
      repeat (first
        | (refine wpT_pure (v := ?_) rfl (by rfl) ?_ ?_
           rotate_left 1
           · (intro w; go_simp; try with_reducible rfl)
           try simp only [Act.put, List.setIfInBounds_toArray, List.set_cons_zero, List.set_cons_succ, List.getElem_toArray, List.getElem_cons_succ, List.getElem_cons_zero])
        | (refine wpT_held (v := ?_) rfl (by rfl) ?_ ?_
           rotate_left 1
           · (rintro w ⟨hs1, hs2, hs3, hs4⟩; go_simp; try with_reducible rfl)
           try simp only [Act.put, List.setIfInBounds_toArray, List.set_cons_zero, List.set_cons_succ, List.getElem_toArray, List.getElem_cons_succ, List.getElem_cons_zero]))
      refine wpT_last rfl (by rfl) (fun K hK => ?_)
      go_simp
      refine hK _ _ ?_
      clear hK K
      refine wpT_done ?_
      clear zt ct3
      have hcell := Hcell.out
      have hfz' := hfz
      go_wp2_with fail
      refine wp_region_chain (fun wz' => wz'.cell? ⟨a, 1 + 2, none⟩ = some (.int .i64 (c.getD 2 0))) [9] [(0, 0), (1, 0), (2, 0), (3, 0), (4, 1), (5, 0), (6, 0), (7, 0), (8, 0), (9, 3)] (by kernel_rfl) (by kernel_rfl) (fun _ d _ _ _ h => by cases d <;> exact h) (by go_simp) ?_
      repeat (first
        | (refine wpC_pure (v := ?_) rfl (by rfl) ?_ ?_
           rotate_left 1
           · (intro w; go_simp; try with_reducible rfl)
           try simp only [Act.put, List.setIfInBounds_toArray, List.set_cons_zero, List.set_cons_succ, List.getElem_toArray, List.getElem_cons_succ, List.getElem_cons_zero])
        | (refine wpC_held (v := ?_) rfl (by rfl) ?_ ?_
           rotate_left 1
           · (rintro w hs1; go_simp; try with_reducible rfl)
           try simp only [Act.put, List.setIfInBounds_toArray, List.set_cons_zero, List.set_cons_succ, List.getElem_toArray, List.getElem_cons_succ, List.getElem_cons_zero]))
      refine wpC_last rfl (by rfl) (fun K hK => ?_)
      go_simp
      refine hK _ _ ?_
      clear hK K
      refine wpC_nil ?_
      go_wp2_with fail
      go_ret
      exact ⟨rfl, RefPost.pre (Hfin.out _ (by rw [show IntKind.i64.wrap (c[2]?.getD 0 + 1) = wrap64 (c.getD 2 0 + 1) from wrap_eq _]; repeat (first | exact Keeps.refl [] _ | refine Keeps.drew ?_))) Hkz.out⟩
    · go_simp
      refine hK _ _ (by go_simp) ?_
      clear hK K
      try simp only [Act.put, List.setIfInBounds_toArray, List.set_cons_zero, List.set_cons_succ, List.getElem_toArray, List.getElem_cons_succ, List.getElem_cons_zero]
      refine wpT_step rfl (by rfl) (fun K hK => ?_)
      refine wp_append_any rt81 _ _ (by rfl) wz.heap.size (.slice (some ⟨wz.heap.size, 0, none⟩) 0 0) 0 [] (by rfl) ((World.ownsRow_made (e := 83) (size := 2) (base := wz.heap.size) wz #[] 0 (Nat.le_refl _) (by simp [maxLen]) (by simp)).alloc (.cells #[.int .i64 fr, .string b] 83 (0, 0))) _ l.length (l.flatMap encPk) (by rfl) (Hs.out.keep (S := []) ((((Keeps.refl [] wz).alloc (.cells #[] 83 (0, 0))).alloc (.cells #[.int .i64 fr, .string b] 83 (0, 0))).drew) (by simp)) (enc_one _) (by omega) (by unfold maxLen; omega) (by first | (simp; done) | (simp; omega)) ?_
      intro ao1 cp1 w2 hown1 hgrow1 hat1 hnil1
      have hk2 : Keeps [] wz w2 := ((((Keeps.refl [] wz).alloc (.cells #[] 83 (0, 0))).alloc (.cells #[.int .i64 fr, .string b] 83 (0, 0))).drew).grown hgrow1 (fun k h => .inr (by simp [Value.ownBlock] at h; omega))
      refine hK _ _ ⟨hk2.cell ca (by simp), hk2.cell cv (by simp), hk2.cell c0 (by simp), hk2.cell c1 (by simp)⟩ ?_
      clear hK K
      simp only [Nat.zero_add, List.nil_append] at hown1 hat1 ⊢
      have hBL : ((wz.alloc (.cells #[] 83 (0, 0))).alloc (.cells #[.int .i64 fr, .string b] 83 (0, 0))).drew.heap[wz.heap.size + 1]? = some (.cells #[.int .i64 fr, .string b] 83 (0, 0)) := heap_top_drew (by simp)
      have hBL2 := (hgrow1.block (wz.heap.size + 1) (by simp) (by simp [Value.ownBlock])).trans hBL
      try simp only [Act.put, List.setIfInBounds_toArray, List.set_cons_zero, List.set_cons_succ, List.getElem_toArray, List.getElem_cons_succ, List.getElem_cons_zero]
      refine wpT_step rfl (by rfl) (fun K hK => ?_)
      refine wp_append_any rt81 _ _ (by rfl) wz.heap.size _ _ _ (by rfl) (hown1) _ 1 [.int .i64 fr, .string b] (by rfl) (SlC.of_block (cs := #[.int .i64 fr, .string b]) (t := 83) (fr := (0, 0)) hBL2 (by rfl)) (by simp [Value.oneCell']) (by omega) (by unfold maxLen; omega) (by have := hk2.size; simp; omega) ?_
      intro ao3 cp3 w3 hown3 hgrow3 hat3 hnil3
      have hob1 : ∀ k, (Value.slice ao1 l.length cp1).ownBlock = some k → wz.heap.size ≤ k := fun k h => (hown1.lt k h).1
      have hk3 : Keeps [] wz w3 := (hk2).grown hgrow3 (fun k h => .inr (hob1 k h))
      refine hK _ _ ⟨hk3.cell ca (by simp), hk3.cell cv (by simp), hk3.cell c0 (by simp), hk3.cell c1 (by simp)⟩ ?_
      clear hK K
      have hlen : (l ++ [(fr, b)]).length = l.length + 1 := by simp
      have hst := Hr.out.rowed (w1 := w3) (v' := .slice ao3 (l.length + 1) cp3) (l' := l ++ [(fr, b)]) Hv.out Hl.out (by simp; omega) (by rw [hlen]; simpa [encPk] using own_base hown3 (Nat.zero_le _)) (hk3.mono (by simp)) (by
        cases hb3 : (Value.slice ao3 (l.length + 1) cp3).ownBlock with
        | none => exact .inr (.inl rfl)
        | some b => exact .inr (.inr ⟨b, rfl, (hown3.lt b hb3).1⟩))
      have zt : w3.frozen? ⟨t, y, none⟩ = false := by simp [World.frozen?, hk3.heap Hr.out.ht (by simp)]
      have ct3 := hk3.cell cv (by simp)
      have hct := hst.1.counted (k := 2) (wrap64 (c.getD 2 0 + 1))
      have hcell := hst.1.cell_c (k := 2) (by omega)
      have hfz : (w3.setCell ⟨t, y, none⟩ (.slice ao3 (l.length + 1) cp3)).frozen? ⟨a, 1 + 2, none⟩ = false := by simp [World.frozen?, hst.1.ha]
      have hfin : ∀ wz' : World, Keeps [] ((w3.setCell ⟨t, y, none⟩ (.slice ao3 (l.length + 1) cp3)).setCell ⟨a, 1 + 2, none⟩ (.int .i64 (wrap64 (c.getD 2 0 + 1)))) wz' → RefPost wz wz' a t vals (to.set y (l ++ [(fr, b)])) (c.set 2 (wrap64 (c.getD 2 0 + 1))) := fun wz' hk' =>
        ⟨_, hct.1.keep hk' (by simp), (hst.2.trans hct.2).trans (NetStep.same hk')⟩
      have Hfin := Lib.hid hfin
      have Hcell := Lib.hid hcell
      clear hfin hst hct hcell hlen hown3 hgrow3 hat3 hnil3 hown1 hgrow1 hat1 hnil1 hob1 hk2 ca cv c0 c1
      try simp only [Nat.zero_add]
      repeat (first
        | (refine wpT_pure (v := ?_) rfl (by rfl) ?_ ?_
           rotate_left 1
           · (intro w; go_simp; try with_reducible rfl)
           try simp only [Act.put, List.setIfInBounds_toArray, List.set_cons_zero, List.set_cons_succ, List.getElem_toArray, List.getElem_cons_succ, List.getElem_cons_zero])
        | (refine wpT_held (v := ?_) rfl (by rfl) ?_ ?_
           rotate_left 1
           · (rintro w ⟨hs1, hs2, hs3, hs4⟩; go_simp; try with_reducible rfl)
           try simp only [Act.put, List.setIfInBounds_toArray, List.set_cons_zero, List.set_cons_succ, List.getElem_toArray, List.getElem_cons_succ, List.getElem_cons_zero]))
      refine wpT_last rfl (by rfl) (fun K hK => ?_)
      go_simp
      refine hK _ _ ?_
      clear hK K
      refine wpT_done ?_
      clear zt ct3
      have hcell := Hcell.out
      have hfz' := hfz
      go_wp2_with fail
      refine wp_region_chain (fun wz' => wz'.cell? ⟨a, 1 + 2, none⟩ = some (.int .i64 (c.getD 2 0))) [9] [(0, 0), (1, 0), (2, 0), (3, 0), (4, 1), (5, 0), (6, 0), (7, 0), (8, 0), (9, 3)] (by kernel_rfl) (by kernel_rfl) (fun _ d _ _ _ h => by cases d <;> exact h) (by go_simp) ?_
      repeat (first
        | (refine wpC_pure (v := ?_) rfl (by rfl) ?_ ?_
           rotate_left 1
           · (intro w; go_simp; try with_reducible rfl)
           try simp only [Act.put, List.setIfInBounds_toArray, List.set_cons_zero, List.set_cons_succ, List.getElem_toArray, List.getElem_cons_succ, List.getElem_cons_zero])
        | (refine wpC_held (v := ?_) rfl (by rfl) ?_ ?_
           rotate_left 1
           · (rintro w hs1; go_simp; try with_reducible rfl)
           try simp only [Act.put, List.setIfInBounds_toArray, List.set_cons_zero, List.set_cons_succ, List.getElem_toArray, List.getElem_cons_succ, List.getElem_cons_zero]))
      refine wpC_last rfl (by rfl) (fun K hK => ?_)
      go_simp
      refine hK _ _ ?_
      clear hK K
      refine wpC_nil ?_
      go_wp2_with fail
      go_ret
      exact ⟨rfl, RefPost.pre (Hfin.out _ (by rw [show IntKind.i64.wrap (c[2]?.getD 0 + 1) = wrap64 (c.getD 2 0 + 1) from wrap_eq _]; repeat (first | exact Keeps.refl [] _ | refine Keeps.drew ?_))) Hkz.out⟩
  · go_simp
    refine hK _ _ (by go_simp) ?_
    clear hK K
    try simp only [Act.put, List.setIfInBounds_toArray, List.set_cons_zero, List.set_cons_succ, List.getElem_toArray, List.getElem_cons_succ, List.getElem_cons_zero]
    refine wpT_step rfl (by rfl) (fun K hK => ?_)
    go_simp
    refine hK _ _ (by go_simp) ?_
    clear hK K
    try simp only [Act.put, List.setIfInBounds_toArray, List.set_cons_zero, List.set_cons_succ, List.getElem_toArray, List.getElem_cons_succ, List.getElem_cons_zero]
    refine wpT_step rfl (by rfl) (fun K hK => ?_)
    refine wp_append_any rt81 _ _ (by rfl) wz.heap.size (.slice (some ⟨wz.heap.size + 1, 0, none⟩) 0 0) 0 [] (by rfl) ((by have h := World.ownsRow_made (e := 83) (size := 2) (base := wz.heap.size) (wz.alloc (.cells #[.int .i64 fr, .string b] 83 (0, 0))) #[] 0 (by simp) (by simp [maxLen]) (by simp); rw [World.size_alloc] at h; exact h)) _ l.length (l.flatMap encPk) (by rfl) (Hs.out.keep (S := []) ((((Keeps.refl [] wz).alloc (.cells #[.int .i64 fr, .string b] 83 (0, 0))).alloc (.cells #[] 83 (0, 0))).drew) (by simp)) (enc_one _) (by omega) (by unfold maxLen; omega) (by first | (simp; done) | (simp; omega)) ?_
    intro ao1 cp1 w2 hown1 hgrow1 hat1 hnil1
    have hk2 : Keeps [] wz w2 := ((((Keeps.refl [] wz).alloc (.cells #[.int .i64 fr, .string b] 83 (0, 0))).alloc (.cells #[] 83 (0, 0))).drew).grown hgrow1 (fun k h => .inr (by simp [Value.ownBlock] at h; omega))
    refine hK _ _ ⟨hk2.cell ca (by simp), hk2.cell cv (by simp), hk2.cell c0 (by simp), hk2.cell c1 (by simp)⟩ ?_
    clear hK K
    simp only [Nat.zero_add, List.nil_append] at hown1 hat1 ⊢
    have hBL : ((wz.alloc (.cells #[.int .i64 fr, .string b] 83 (0, 0))).alloc (.cells #[] 83 (0, 0))).drew.heap[wz.heap.size]? = some (.cells #[.int .i64 fr, .string b] 83 (0, 0)) := (Below.heap_alloc _ _ _ (by simp)).trans (heap_alloc_new _ _)
    have hBL2 := (hgrow1.block wz.heap.size (by simp; omega) (by simp [Value.ownBlock])).trans hBL
    try simp only [Act.put, List.setIfInBounds_toArray, List.set_cons_zero, List.set_cons_succ, List.getElem_toArray, List.getElem_cons_succ, List.getElem_cons_zero]
    refine wpT_step rfl (by rfl) (fun K hK => ?_)
    refine wp_append_any rt81 _ _ (by rfl) wz.heap.size _ _ _ (by rfl) (hown1) _ 1 [.int .i64 fr, .string b] (by rfl) (SlC.of_block (cs := #[.int .i64 fr, .string b]) (t := 83) (fr := (0, 0)) hBL2 (by rfl)) (by simp [Value.oneCell']) (by omega) (by unfold maxLen; omega) (by have := hk2.size; simp; omega) ?_
    intro ao3 cp3 w3 hown3 hgrow3 hat3 hnil3
    have hob1 : ∀ k, (Value.slice ao1 l.length cp1).ownBlock = some k → wz.heap.size ≤ k := fun k h => (hown1.lt k h).1
    have hk3 : Keeps [] wz w3 := (hk2).grown hgrow3 (fun k h => .inr (hob1 k h))
    refine hK _ _ ⟨hk3.cell ca (by simp), hk3.cell cv (by simp), hk3.cell c0 (by simp), hk3.cell c1 (by simp)⟩ ?_
    clear hK K
    have hlen : (l ++ [(fr, b)]).length = l.length + 1 := by simp
    have hst := Hr.out.rowed (w1 := w3) (v' := .slice ao3 (l.length + 1) cp3) (l' := l ++ [(fr, b)]) Hv.out Hl.out (by simp; omega) (by rw [hlen]; simpa [encPk] using own_base hown3 (Nat.zero_le _)) (hk3.mono (by simp)) (by
      cases hb3 : (Value.slice ao3 (l.length + 1) cp3).ownBlock with
      | none => exact .inr (.inl rfl)
      | some b => exact .inr (.inr ⟨b, rfl, (hown3.lt b hb3).1⟩))
    have zt : w3.frozen? ⟨t, y, none⟩ = false := by simp [World.frozen?, hk3.heap Hr.out.ht (by simp)]
    have ct3 := hk3.cell cv (by simp)
    have hct := hst.1.counted (k := 2) (wrap64 (c.getD 2 0 + 1))
    have hcell := hst.1.cell_c (k := 2) (by omega)
    have hfz : (w3.setCell ⟨t, y, none⟩ (.slice ao3 (l.length + 1) cp3)).frozen? ⟨a, 1 + 2, none⟩ = false := by simp [World.frozen?, hst.1.ha]
    have hfin : ∀ wz' : World, Keeps [] ((w3.setCell ⟨t, y, none⟩ (.slice ao3 (l.length + 1) cp3)).setCell ⟨a, 1 + 2, none⟩ (.int .i64 (wrap64 (c.getD 2 0 + 1)))) wz' → RefPost wz wz' a t vals (to.set y (l ++ [(fr, b)])) (c.set 2 (wrap64 (c.getD 2 0 + 1))) := fun wz' hk' =>
      ⟨_, hct.1.keep hk' (by simp), (hst.2.trans hct.2).trans (NetStep.same hk')⟩
    have Hfin := Lib.hid hfin
    have Hcell := Lib.hid hcell
    clear hfin hst hct hcell hlen hown3 hgrow3 hat3 hnil3 hown1 hgrow1 hat1 hnil1 hob1 hk2 ca cv c0 c1
    try simp only [Nat.zero_add]
    repeat (first
      | (refine wpT_pure (v := ?_) rfl (by rfl) ?_ ?_
         rotate_left 1
         · (intro w; go_simp; try with_reducible rfl)
         try simp only [Act.put, List.setIfInBounds_toArray, List.set_cons_zero, List.set_cons_succ, List.getElem_toArray, List.getElem_cons_succ, List.getElem_cons_zero])
      | (refine wpT_held (v := ?_) rfl (by rfl) ?_ ?_
         rotate_left 1
         · (rintro w ⟨hs1, hs2, hs3, hs4⟩; go_simp; try with_reducible rfl)
         try simp only [Act.put, List.setIfInBounds_toArray, List.set_cons_zero, List.set_cons_succ, List.getElem_toArray, List.getElem_cons_succ, List.getElem_cons_zero]))
    refine wpT_last rfl (by rfl) (fun K hK => ?_)
    go_simp
    refine hK _ _ ?_
    clear hK K
    refine wpT_done ?_
    clear zt ct3
    have hcell := Hcell.out
    have hfz' := hfz
    go_wp2_with fail
    refine wp_region_chain (fun wz' => wz'.cell? ⟨a, 1 + 2, none⟩ = some (.int .i64 (c.getD 2 0))) [9] [(0, 0), (1, 0), (2, 0), (3, 0), (4, 1), (5, 0), (6, 0), (7, 0), (8, 0), (9, 3)] (by kernel_rfl) (by kernel_rfl) (fun _ d _ _ _ h => by cases d <;> exact h) (by go_simp) ?_
    repeat (first
      | (refine wpC_pure (v := ?_) rfl (by rfl) ?_ ?_
         rotate_left 1
         · (intro w; go_simp; try with_reducible rfl)
         try simp only [Act.put, List.setIfInBounds_toArray, List.set_cons_zero, List.set_cons_succ, List.getElem_toArray, List.getElem_cons_succ, List.getElem_cons_zero])
      | (refine wpC_held (v := ?_) rfl (by rfl) ?_ ?_
         rotate_left 1
         · (rintro w hs1; go_simp; try with_reducible rfl)
         try simp only [Act.put, List.setIfInBounds_toArray, List.set_cons_zero, List.set_cons_succ, List.getElem_toArray, List.getElem_cons_succ, List.getElem_cons_zero]))
    refine wpC_last rfl (by rfl) (fun K hK => ?_)
    go_simp
    refine hK _ _ ?_
    clear hK K
    refine wpC_nil ?_
    go_wp2_with fail
    go_ret
    exact ⟨rfl, RefPost.pre (Hfin.out _ (by rw [show IntKind.i64.wrap (c[2]?.getD 0 + 1) = wrap64 (c.getD 2 0 + 1) from wrap_eq _]; repeat (first | exact Keeps.refl [] _ | refine Keeps.drew ?_))) Hkz.out⟩

end Go.Proofs.Ytgkdlpbnhjfkdaa
