/- Contracts of the reference's Take and Lose. Conditions: those of each theorem. -/
import Derived.Test.YtgkdlpbnhjfkdaaRefB
namespace Go.Proofs.Ytgkdlpbnhjfkdaa
open Go.RowKit

theorem wrap_eq (n : Int) : IntKind.i64.wrap n = wrap64 n := by simp [IntKind.wrap_i64, wrap64]

theorem getM_ne (to : List (List Pk)) (x i : Int) (h : (getM to x i).2 = 180 ∨ (getM to x i).2 = 5) : ((getM to x i).2 != 0) = true := by rcases h with h | h <;> rw [h] <;> rfl
theorem getM_z (to : List (List Pk)) (x i : Int) (h : (getM to x i).2 = 180 ∨ (getM to x i).2 = 5) : (getM to x i).1 = zPk := by
  rcases getM_cases to x i with h1 | h1 | ⟨y, j, l, p, rfl, rfl, hl, hp, hg⟩
  · exact h1.2
  · exact h1.2
  · rw [hg] at h; simp at h
theorem pullM_no (to : List (List Pk)) (c : List Int) (x i : Int) (k : Nat) (h : (getM to x i).2 = 180 ∨ (getM to x i).2 = 5) : pullM to c x i k = (to, c) := by
  simp only [pullM]; rw [if_neg]; rcases h with h | h <;> rw [h] <;> decide
theorem pullM_yes {to : List (List Pk)} {c : List Int} {y j k : Nat} {l : List Pk} {p : Pk} (hl : to[y]? = some l) (hg : getM to y j = (p, 0)) : pullM to c y j k = (to.set y (l.eraseIdx j), c.set k (wrap64 (c.getD k 0 + 1))) := by
  simp [pullM, hg, List.getD_eq_getElem?_getD, hl]

set_option maxHeartbeats 1000000 in
theorem ref_take {a t vals to c} (x i : Int) (w : World) (h : RefRep w a t vals to c) :
    Calls Try.prog 23 #[.pointer (some ⟨a, 0, none⟩), .int .i64 x, .int .i64 i] w fun e w' => e = .returned (.tuple #[.int .i64 (getM to x i).1.1, .string (getM to x i).1.2, .int .i64 (getM to x i).2]) ∧
      RefPost w w' a t vals (pullM to c x i 3).1 (pullM to c x i 3).2 := by
  have H := Lib.hid (ref_get x i w h)
  have no : ((getM to x i).2 = 180 ∨ (getM to x i).2 = 5) → Calls Try.prog 23 #[.pointer (some ⟨a, 0, none⟩), .int .i64 x, .int .i64 i] w fun e w' => e = .returned (.tuple #[.int .i64 (getM to x i).1.1, .string (getM to x i).1.2, .int .i64 (getM to x i).2]) ∧
      RefPost w w' a t vals (pullM to c x i 3).1 (pullM to c x i 3).2 := by
    intro hne
    rw [pullM_no to c x i 3 hne]
    have hne' := getM_ne to x i hne
    have hz := getM_z to x i hne
    clear hne
    generalize getM to x i = q at *
    obtain ⟨⟨fr, s⟩, e0⟩ := q
    simp only [zPk, Prod.mk.injEq] at hz
    obtain ⟨rfl, rfl⟩ := hz
    simp only at H hne' ⊢
    go_enter Try.func23, Try.ntmps23
    go_wp2_with fail
    refine H.out.mono ?_
    rintro e w1 ⟨rfl, hk⟩
    clear H
    go_wp2_with fail
    go_ret3
    exact ⟨rfl, vals, h.keep (hk.alloc _) (by simp), NetStep.same (hk.alloc _)⟩
  rcases getM_cases to x i with h1 | h1 | ⟨y, j, l, p, rfl, rfl, hl, hp, hg⟩
  · exact no (.inl h1.1)
  · exact no (.inr h1.1)
  · rw [pullM_yes hl hg]
    rw [hg] at H ⊢
    clear no
    obtain ⟨fr, s⟩ := p
    simp only at H ⊢
    obtain ⟨v, hv, ho, hle⟩ := h.row hl
    have hjl : j < l.length := (List.getElem?_eq_some_iff.1 hp).1
    have hyl : y < to.length := (List.getElem?_eq_some_iff.1 hl).1
    have hn17 := h.hn
    obtain ⟨g, cap, rfl, _, gg⟩ := ho.form (by omega)
    have hcap : l.length ≤ cap ∧ cap ≤ maxLen := by
      rcases ho.2 with ⟨e, _⟩ | ⟨g', cap', cur, e, _, _, h1, h2, _⟩
      · cases e
      · cases e; exact ⟨h1, h2⟩
    have hne' : ((0 : Int) != 0) = false := rfl
    have Hr := Lib.hid h
    have Hl := Lib.hid hl
    have Hv := Lib.hid hv
    have Ho := Lib.hid ho
    have ft := h.far_t hv
    have fa := h.far_a hv
    have hat := h.a_ne_t
    clear h hl hp hg hv ho
    go_enter Try.func23, Try.ntmps23
    go_wp2_with fail
    refine H.out.mono ?_
    rintro e w1 ⟨rfl, hk⟩
    have hR1 := Hr.out.keep hk (by simp)
    have ca := hR1.cell_to
    have cv := hR1.cell_val Hv.out
    have ga := heap_lt hR1.ha
    have gt := heap_lt hR1.ht
    have hA : Keeps [] w1 (w1.alloc (.cells #[.int .i64 fr, .string s] 83 (0, 0))).drew := ((Keeps.refl _ _).alloc _).drew
    have hB : (w1.alloc (.cells #[.int .i64 fr, .string s] 83 (0, 0))).drew.heap[w1.heap.size]? = some (.cells #[.int .i64 fr, .string s] 83 (0, 0)) := heap_alloc_new _ _
    have hW := Lib.hid (ref_without g cap j l _ hle hjl hcap.1 hcap.2 (SlC.of_own (own_kept Ho.out (hk.then hA) (by simp))))
    have HR1 := Lib.hid hR1
    clear H hR1
    go_wp2_with fail
    have b0 : (0 : Int) ≤ (y : Int) := by omega
    have b1 : (y : Int) < (to.length : Int) := by omega
    refine wp_region_chain (fun w' => w'.cell? ⟨a, 0, none⟩ = some (.slice (some ⟨t, 0, none⟩) to.length to.length) ∧ w'.cell? ⟨t, y, none⟩ = some (.slice (some ⟨g, 0, none⟩) l.length cap)) [15] [(0, 0), (1, 0), (2, 0), (3, 1), (4, 0), (5, 0), (6, 0), (7, 0), (8, 1), (9, 0), (10, 0), (11, 1), (12, 0), (13, 2), (14, 0), (15, 3)] (by kernel_rfl) (by kernel_rfl) (fun _ d _ _ _ h => by cases d <;> exact h) (by go_simp) ?_
    repeat (first
      | (refine wpC_pure (v := ?_) rfl (by rfl) ?_ ?_
         rotate_left 1
         · (intro w; go_simp; try with_reducible rfl)
         try simp only [Act.put, List.setIfInBounds_toArray, List.set_cons_zero, List.set_cons_succ, List.getElem_toArray, List.getElem_cons_succ, List.getElem_cons_zero])
      | (refine wpC_held (v := ?_) rfl (by rfl) ?_ ?_
         rotate_left 1
         · (rintro w ⟨hs1, hs2⟩; go_simp; try with_reducible rfl)
         try simp only [Act.put, List.setIfInBounds_toArray, List.set_cons_zero, List.set_cons_succ, List.getElem_toArray, List.getElem_cons_succ, List.getElem_cons_zero]))
    refine wpC_step rfl (by rfl) (fun K hK => ?_)
    go_simp
    refine hW.out.mono ?_
    rintro e w2 ⟨ao2, cp2, rfl, hown2, hk2⟩
    have hk12 : Keeps [] w1 w2 := hA.then hk2
    have ca2 := hk12.cell ca (by simp)
    have cv2 := hk12.cell cv (by simp)
    refine hK _ _ ⟨ca2, cv2⟩ ?_
    clear hK K
    have hlen : (l.eraseIdx j).length = l.length - 1 := List.length_eraseIdx_of_lt hjl
    have hst := HR1.out.rowed (w1 := w2) (v' := .slice ao2 (l.length - 1) cp2) (l' := l.eraseIdx j) Hv.out Hl.out (by omega) (by rw [hlen]; exact own_base hown2 (Nat.zero_le _)) (hk12.mono (by simp)) (by
      cases hb3 : (Value.slice ao2 (l.length - 1) cp2).ownBlock with
      | none => exact .inr (.inl rfl)
      | some b => exact .inr (.inr ⟨b, rfl, by have := (hown2.lt b hb3).1; have := hA.size; omega⟩))
    have hct := hst.1.counted (k := 3) (wrap64 (c.getD 3 0 + 1))
    have hcell := hst.1.cell_c (k := 3) (by omega)
    have hfz : (w2.setCell ⟨t, y, none⟩ (.slice ao2 (l.length - 1) cp2)).frozen? ⟨a, 1 + 3, none⟩ = false := by simp [World.frozen?, hst.1.ha]
    have zt : w2.frozen? ⟨t, y, none⟩ = false := by simp [World.frozen?, hk12.heap HR1.out.ht (by simp)]
    have hB2 := hk2.heap hB (by simp)
    have B0 := cell_of_row w2 w1.heap.size 0 _ _ _ hB2
    have B1 := cell_of_row w2 w1.heap.size 1 _ _ _ hB2
    have n1 : w1.heap.size ≠ t := by omega
    have n2 : w1.heap.size ≠ a := by omega
    have Hst := Lib.hid hst
    have Hct := Lib.hid hct
    have Hcell := Lib.hid hcell
    clear hst hct hcell hlen hown2 hk2 hA hB hB2 hW ca cv
    repeat (first
      | (refine wpC_pure (v := ?_) rfl (by rfl) ?_ ?_
         rotate_left 1
         · (intro w; go_simp; try with_reducible rfl)
         try simp only [Act.put, List.setIfInBounds_toArray, List.set_cons_zero, List.set_cons_succ, List.getElem_toArray, List.getElem_cons_succ, List.getElem_cons_zero])
      | (refine wpC_held (v := ?_) rfl (by rfl) ?_ ?_
         rotate_left 1
         · (rintro w ⟨hs1, hs2⟩; go_simp; try with_reducible rfl)
         try simp only [Act.put, List.setIfInBounds_toArray, List.set_cons_zero, List.set_cons_succ, List.getElem_toArray, List.getElem_cons_succ, List.getElem_cons_zero]))
    refine wpC_last rfl (by rfl) (fun K hK => ?_)
    go_simp
    refine hK _ _ ?_
    clear hK K
    refine wpC_nil ?_
    clear ca2 cv2 zt
    have hcell := Hcell.out
    have hfz' := hfz
    go_wp2_with fail
    refine wp_region_chain (fun w' => w'.cell? ⟨a, 1 + 3, none⟩ = some (.int .i64 (c.getD 3 0))) [9] [(0, 0), (1, 0), (2, 0), (3, 0), (4, 1), (5, 0), (6, 0), (7, 0), (8, 0), (9, 3)] (by kernel_rfl) (by kernel_rfl) (fun _ d _ _ _ h => by cases d <;> exact h) (by go_simp) ?_
    repeat (first
      | (refine wpC_pure (v := ?_) rfl (by rfl) ?_ ?_
         rotate_left 1
         · (intro w; go_simp; try with_reducible rfl)
         try simp only [Act.put, List.setIfInBounds_toArray, List.set_cons_zero, List.set_cons_succ, List.getElem_toArray, List.getElem_cons_succ, List.getElem_cons_zero])
      | (refine wpC_held (v := ?_) rfl (by rfl) ?_ ?_
         rotate_left 1
         · (rintro w hs1; go_simp; try with_reducible rfl)
         try simp only [Act.put, List.setIfInBounds_toArray, List.set_cons_zero, List.set_cons_succ, List.getElem_toArray, List.getElem_cons_succ, List.getElem_cons_zero]))
    refine wpC_last rfl (by rfl) (fun K hK => ?_)
    go_simp
    refine hK _ _ ?_
    clear hK K
    refine wpC_nil ?_
    go_wp2_with fail
    have hfin : ∀ w' : World, Keeps [] ((w2.setCell ⟨t, y, none⟩ (.slice ao2 (l.length - 1) cp2)).setCell ⟨a, 1 + 3, none⟩ (.int .i64 (wrap64 (c.getD 3 0 + 1)))) w' → RefPost w w' a t vals (to.set y (l.eraseIdx j)) (c.set 3 (wrap64 (c.getD 3 0 + 1))) := fun w' hk' =>
      ⟨_, Hct.out.1.keep hk' (by simp), (((NetStep.same hk).trans Hst.out.2).trans Hct.out.2).trans (NetStep.same hk')⟩
    have Hfin := Lib.hid hfin
    clear hfin Hst Hct HR1
    refine wp_region_chain (fun w' => w'.cell? ⟨w1.heap.size, 0, none⟩ = some (.int .i64 fr) ∧ w'.cell? ⟨w1.heap.size, 1, none⟩ = some (.string s)) [] [(0, 0), (1, 1), (2, 0), (3, 1), (4, 0), (5, 0), (6, 0)] (by kernel_rfl) (by kernel_rfl) (fun _ d _ _ _ h => by cases d <;> exact h) (by go_simp) ?_
    repeat (first
      | (refine wpC_pure (v := ?_) rfl (by rfl) ?_ ?_
         rotate_left 1
         · (intro w; go_simp; try with_reducible rfl)
         try simp only [Act.put, List.setIfInBounds_toArray, List.set_cons_zero, List.set_cons_succ, List.getElem_toArray, List.getElem_cons_succ, List.getElem_cons_zero])
      | (refine wpC_held (v := ?_) rfl (by rfl) ?_ ?_
         rotate_left 1
         · (rintro w ⟨hs1, hs2⟩; go_simp; try with_reducible rfl)
         try simp only [Act.put, List.setIfInBounds_toArray, List.set_cons_zero, List.set_cons_succ, List.getElem_toArray, List.getElem_cons_succ, List.getElem_cons_zero]))
    refine wpC_nil ?_
    go_wp2_with fail
    go_ret3
    exact ⟨rfl, Hfin.out _ (by rw [show IntKind.i64.wrap (c[3]?.getD 0 + 1) = wrap64 (c.getD 3 0 + 1) from wrap_eq _]; repeat (first | exact Keeps.refl [] _ | refine Keeps.drew ?_))⟩

set_option maxHeartbeats 1000000 in
theorem ref_lose {a t vals to c} (x i : Int) (w : World) (h : RefRep w a t vals to c) :
    Calls Try.prog 24 #[.pointer (some ⟨a, 0, none⟩), .int .i64 x, .int .i64 i] w fun e w' => e = .returned (.int .i64 (getM to x i).2) ∧
      RefPost w w' a t vals (pullM to c x i 1).1 (pullM to c x i 1).2 := by
  have H := Lib.hid (ref_get x i w h)
  have no : ((getM to x i).2 = 180 ∨ (getM to x i).2 = 5) → Calls Try.prog 24 #[.pointer (some ⟨a, 0, none⟩), .int .i64 x, .int .i64 i] w fun e w' => e = .returned (.int .i64 (getM to x i).2) ∧
      RefPost w w' a t vals (pullM to c x i 1).1 (pullM to c x i 1).2 := by
    intro hne
    rw [pullM_no to c x i 1 hne]
    have hne' := getM_ne to x i hne
    have hz := getM_z to x i hne
    clear hne
    generalize getM to x i = q at *
    obtain ⟨⟨fr, s⟩, e0⟩ := q
    simp only [zPk, Prod.mk.injEq] at hz
    obtain ⟨rfl, rfl⟩ := hz
    simp only at H hne' ⊢
    go_enter Try.func24, Try.ntmps24
    go_wp2_with fail
    refine H.out.mono ?_
    rintro e w1 ⟨rfl, hk⟩
    clear H
    go_wp2_with fail
    go_ret
    exact ⟨rfl, vals, h.keep (hk.alloc _) (by simp), NetStep.same (hk.alloc _)⟩
  rcases getM_cases to x i with h1 | h1 | ⟨y, j, l, p, rfl, rfl, hl, hp, hg⟩
  · exact no (.inl h1.1)
  · exact no (.inr h1.1)
  · rw [pullM_yes hl hg]
    rw [hg] at H ⊢
    clear no
    obtain ⟨fr, s⟩ := p
    simp only at H ⊢
    obtain ⟨v, hv, ho, hle⟩ := h.row hl
    have hjl : j < l.length := (List.getElem?_eq_some_iff.1 hp).1
    have hyl : y < to.length := (List.getElem?_eq_some_iff.1 hl).1
    have hn17 := h.hn
    obtain ⟨g, cap, rfl, _, gg⟩ := ho.form (by omega)
    have hcap : l.length ≤ cap ∧ cap ≤ maxLen := by
      rcases ho.2 with ⟨e, _⟩ | ⟨g', cap', cur, e, _, _, h1, h2, _⟩
      · cases e
      · cases e; exact ⟨h1, h2⟩
    have hne' : ((0 : Int) != 0) = false := rfl
    have Hr := Lib.hid h
    have Hl := Lib.hid hl
    have Hv := Lib.hid hv
    have Ho := Lib.hid ho
    have ft := h.far_t hv
    have fa := h.far_a hv
    have hat := h.a_ne_t
    clear h hl hp hg hv ho
    go_enter Try.func24, Try.ntmps24
    go_wp2_with fail
    refine H.out.mono ?_
    rintro e w1 ⟨rfl, hk⟩
    have hR1 := Hr.out.keep hk (by simp)
    have ca := hR1.cell_to
    have cv := hR1.cell_val Hv.out
    have ga := heap_lt hR1.ha
    have gt := heap_lt hR1.ht
    have hA : Keeps [] w1 (w1.alloc (.cells #[.int .i64 fr, .string s] 83 (0, 0))).drew := ((Keeps.refl _ _).alloc _).drew
    have hB : (w1.alloc (.cells #[.int .i64 fr, .string s] 83 (0, 0))).drew.heap[w1.heap.size]? = some (.cells #[.int .i64 fr, .string s] 83 (0, 0)) := heap_alloc_new _ _
    have hW := Lib.hid (ref_without g cap j l _ hle hjl hcap.1 hcap.2 (SlC.of_own (own_kept Ho.out (hk.then hA) (by simp))))
    have HR1 := Lib.hid hR1
    clear H hR1
    go_wp2_with fail
    have b0 : (0 : Int) ≤ (y : Int) := by omega
    have b1 : (y : Int) < (to.length : Int) := by omega
    refine wp_region_chain (fun w' => w'.cell? ⟨a, 0, none⟩ = some (.slice (some ⟨t, 0, none⟩) to.length to.length) ∧ w'.cell? ⟨t, y, none⟩ = some (.slice (some ⟨g, 0, none⟩) l.length cap)) [15] [(0, 0), (1, 0), (2, 0), (3, 1), (4, 0), (5, 0), (6, 0), (7, 0), (8, 1), (9, 0), (10, 0), (11, 1), (12, 0), (13, 2), (14, 0), (15, 3)] (by kernel_rfl) (by kernel_rfl) (fun _ d _ _ _ h => by cases d <;> exact h) (by go_simp) ?_
    repeat (first
      | (refine wpC_pure (v := ?_) rfl (by rfl) ?_ ?_
         rotate_left 1
         · (intro w; go_simp; try with_reducible rfl)
         try simp only [Act.put, List.setIfInBounds_toArray, List.set_cons_zero, List.set_cons_succ, List.getElem_toArray, List.getElem_cons_succ, List.getElem_cons_zero])
      | (refine wpC_held (v := ?_) rfl (by rfl) ?_ ?_
         rotate_left 1
         · (rintro w ⟨hs1, hs2⟩; go_simp; try with_reducible rfl)
         try simp only [Act.put, List.setIfInBounds_toArray, List.set_cons_zero, List.set_cons_succ, List.getElem_toArray, List.getElem_cons_succ, List.getElem_cons_zero]))
    refine wpC_step rfl (by rfl) (fun K hK => ?_)
    go_simp
    refine hW.out.mono ?_
    rintro e w2 ⟨ao2, cp2, rfl, hown2, hk2⟩
    have hk12 : Keeps [] w1 w2 := hA.then hk2
    have ca2 := hk12.cell ca (by simp)
    have cv2 := hk12.cell cv (by simp)
    refine hK _ _ ⟨ca2, cv2⟩ ?_
    clear hK K
    have hlen : (l.eraseIdx j).length = l.length - 1 := List.length_eraseIdx_of_lt hjl
    have hst := HR1.out.rowed (w1 := w2) (v' := .slice ao2 (l.length - 1) cp2) (l' := l.eraseIdx j) Hv.out Hl.out (by omega) (by rw [hlen]; exact own_base hown2 (Nat.zero_le _)) (hk12.mono (by simp)) (by
      cases hb3 : (Value.slice ao2 (l.length - 1) cp2).ownBlock with
      | none => exact .inr (.inl rfl)
      | some b => exact .inr (.inr ⟨b, rfl, by have := (hown2.lt b hb3).1; have := hA.size; omega⟩))
    have hct := hst.1.counted (k := 1) (wrap64 (c.getD 1 0 + 1))
    have hcell := hst.1.cell_c (k := 1) (by omega)
    have hfz : (w2.setCell ⟨t, y, none⟩ (.slice ao2 (l.length - 1) cp2)).frozen? ⟨a, 1 + 1, none⟩ = false := by simp [World.frozen?, hst.1.ha]
    have zt : w2.frozen? ⟨t, y, none⟩ = false := by simp [World.frozen?, hk12.heap HR1.out.ht (by simp)]
    have hB2 := hk2.heap hB (by simp)
    have B0 := cell_of_row w2 w1.heap.size 0 _ _ _ hB2
    have B1 := cell_of_row w2 w1.heap.size 1 _ _ _ hB2
    have n1 : w1.heap.size ≠ t := by omega
    have n2 : w1.heap.size ≠ a := by omega
    have Hst := Lib.hid hst
    have Hct := Lib.hid hct
    have Hcell := Lib.hid hcell
    clear hst hct hcell hlen hown2 hk2 hA hB hB2 hW ca cv
    repeat (first
      | (refine wpC_pure (v := ?_) rfl (by rfl) ?_ ?_
         rotate_left 1
         · (intro w; go_simp; try with_reducible rfl)
         try simp only [Act.put, List.setIfInBounds_toArray, List.set_cons_zero, List.set_cons_succ, List.getElem_toArray, List.getElem_cons_succ, List.getElem_cons_zero])
      | (refine wpC_held (v := ?_) rfl (by rfl) ?_ ?_
         rotate_left 1
         · (rintro w ⟨hs1, hs2⟩; go_simp; try with_reducible rfl)
         try simp only [Act.put, List.setIfInBounds_toArray, List.set_cons_zero, List.set_cons_succ, List.getElem_toArray, List.getElem_cons_succ, List.getElem_cons_zero]))
    refine wpC_last rfl (by rfl) (fun K hK => ?_)
    go_simp
    refine hK _ _ ?_
    clear hK K
    refine wpC_nil ?_
    clear ca2 cv2 zt
    have hcell := Hcell.out
    have hfz' := hfz
    go_wp2_with fail
    refine wp_region_chain (fun w' => w'.cell? ⟨a, 1 + 1, none⟩ = some (.int .i64 (c.getD 1 0))) [9] [(0, 0), (1, 0), (2, 0), (3, 0), (4, 1), (5, 0), (6, 0), (7, 0), (8, 0), (9, 3)] (by kernel_rfl) (by kernel_rfl) (fun _ d _ _ _ h => by cases d <;> exact h) (by go_simp) ?_
    repeat (first
      | (refine wpC_pure (v := ?_) rfl (by rfl) ?_ ?_
         rotate_left 1
         · (intro w; go_simp; try with_reducible rfl)
         try simp only [Act.put, List.setIfInBounds_toArray, List.set_cons_zero, List.set_cons_succ, List.getElem_toArray, List.getElem_cons_succ, List.getElem_cons_zero])
      | (refine wpC_held (v := ?_) rfl (by rfl) ?_ ?_
         rotate_left 1
         · (rintro w hs1; go_simp; try with_reducible rfl)
         try simp only [Act.put, List.setIfInBounds_toArray, List.set_cons_zero, List.set_cons_succ, List.getElem_toArray, List.getElem_cons_succ, List.getElem_cons_zero]))
    refine wpC_last rfl (by rfl) (fun K hK => ?_)
    go_simp
    refine hK _ _ ?_
    clear hK K
    refine wpC_nil ?_
    go_wp2_with fail
    have hfin : ∀ w' : World, Keeps [] ((w2.setCell ⟨t, y, none⟩ (.slice ao2 (l.length - 1) cp2)).setCell ⟨a, 1 + 1, none⟩ (.int .i64 (wrap64 (c.getD 1 0 + 1)))) w' → RefPost w w' a t vals (to.set y (l.eraseIdx j)) (c.set 1 (wrap64 (c.getD 1 0 + 1))) := fun w' hk' =>
      ⟨_, Hct.out.1.keep hk' (by simp), (((NetStep.same hk).trans Hst.out.2).trans Hct.out.2).trans (NetStep.same hk')⟩
    have Hfin := Lib.hid hfin
    clear hfin Hst Hct HR1
    go_ret
    exact ⟨rfl, Hfin.out _ (by rw [show IntKind.i64.wrap (c[1]?.getD 0 + 1) = wrap64 (c.getD 1 0 + 1) from wrap_eq _]; repeat (first | exact Keeps.refl [] _ | refine Keeps.drew ?_))⟩

end Go.Proofs.Ytgkdlpbnhjfkdaa
