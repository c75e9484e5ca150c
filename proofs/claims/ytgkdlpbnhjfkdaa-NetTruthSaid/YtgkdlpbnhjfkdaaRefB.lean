/- Contracts of the reference's none, New, Way, get and without. Conditions: those of each theorem. -/
import Derived.Test.YtgkdlpbnhjfkdaaRefA
import Derived.Test.YtgkdlpbnhjfkdaaRegion2
namespace Go.Proofs.Ytgkdlpbnhjfkdaa
open Go.RowKit

theorem rt81 : RowTy Try.prog 81 83 2 24 := ⟨Try.underlying81, by kernel_rfl, by omega⟩

set_option maxHeartbeats 400000 in
theorem ref_none {a t vals to c} (x : Int) (w : World) (h : RefRep w a t vals to c) :
    Calls Try.prog 37 #[.pointer (some ⟨a, 0, none⟩), .int .i64 x] w fun e w' => e = .returned (.bool (noNode to.length x)) ∧ w = w' := by
  have h1 := h.cell_to
  have hn := h.hn
  clear h
  go_enter Try.func37, Try.ntmps37
  go_wp2
  · go_ret
    simp [noNode, *]
  · go_ret
    simp [noNode, *]

set_option maxHeartbeats 400000 in
theorem ref_new_yes (n : Nat) (w : World) (h1 : 1 ≤ n) (h2 : n ≤ 17) :
    Calls Try.prog 12 #[.int .i64 n] w fun e w' => e = .returned (.tuple #[.pointer (some ⟨w.heap.size + 1, 0, none⟩), .int .i64 0]) ∧
      RefRep w' (w.heap.size + 1) w.heap.size (List.replicate n (.slice none 0 0)) (List.replicate n []) [0, 0, 0, 0] ∧ Keeps [] w w' := by
  have hmk := fun w : World => run_make_one (P := Try.prog) w (t := 43) (e := 81) (bytes := 24) (z := .slice none 0 0) Try.underlying43 (by kernel_rfl) rfl n (by omega) (by omega)
  go_enter Try.func12, Try.ntmps12
  go_wp2_with fail
  go_ret2
  refine ⟨rfl, ⟨?_, ?_, rfl, by simp, by simpa using h2, ?_, ?_⟩, ((Keeps.refl _ _).alloc _).alloc _⟩
  · refine heap_top_eq (by simp) ?_
    simp [netCells]
  · exact (Below.heap_alloc _ _ _ (by simp)).trans (heap_alloc_new _ _)
  · intro i v l hv hl
    have hv' := List.mem_of_getElem? hv
    have hl' := List.mem_of_getElem? hl
    rw [List.mem_replicate] at hv' hl'
    rw [hv'.2, hl'.2]
    exact ⟨World.ownsRow_nil _ _ _ _, by simp⟩
  · have : (List.replicate n (Value.slice none 0 0)).filterMap Value.ownBlock = [] := by
      rw [List.filterMap_eq_nil_iff]
      intro x hx
      rw [List.mem_replicate] at hx
      rw [hx.2]; rfl
    rw [this]; simp

set_option maxHeartbeats 400000 in
theorem ref_new_no (n : Int) (w : World) (h1 : n < 1 ∨ 17 < n) :
    Calls Try.prog 12 #[.int .i64 n] w fun e w' => e = .returned (.tuple #[.pointer none, .int .i64 1]) ∧ w = w' := by
  by_cases h : n < 1
  · clear h1
    go_enter Try.func12, Try.ntmps12
    go_wp2_with fail
    go_ret2
    exact ⟨rfl, rfl⟩
  · have h2 := h1.resolve_left h
    clear h1
    go_enter Try.func12, Try.ntmps12
    go_wp2_with fail
    go_ret2
    exact ⟨rfl, rfl⟩

set_option maxHeartbeats 400000 in
theorem ref_way {a t vals to c} (x : Int) (w : World) (h : RefRep w a t vals to c) :
    Calls Try.prog 27 #[.pointer (some ⟨a, 0, none⟩), .int .i64 x] w fun e w' => e = .returned (.tuple #[.int .i64 (wayM to x).1, .int .i64 (wayM to x).2]) ∧ w = w' := by
  have Hn := Lib.hid (ref_none x w h)
  by_cases hn : noNode to.length x = true
  · have hs : wayM to x = (0, 180) := by simp only [wayM]; rw [if_pos hn]
    rw [hs]
    rw [hn] at Hn
    clear hs hn h
    go_enter Try.func27, Try.ntmps27
    go_wp2_with fail
    refine Hn.out.mono ?_
    rintro e w1 ⟨rfl, rfl⟩
    clear Hn
    go_wp2_with fail
    go_ret2
    exact ⟨rfl, rfl⟩
  · have hs : wayM to x = (((to.getD x.toNat []).length : Int), 0) := by simp only [wayM]; rw [if_neg hn]
    have hn' : noNode to.length x = false := by simpa using hn
    rw [hs]
    rw [hn'] at Hn
    simp only [noNode, Bool.or_eq_false_iff, decide_eq_false_iff_not, Int.not_lt, Int.not_le] at hn'
    obtain ⟨y, rfl⟩ := Int.eq_ofNat_of_zero_le hn'.1
    have hy : y < to.length := by omega
    have hl : to[y]? = some to[y] := List.getElem?_eq_getElem hy
    obtain ⟨v, hv, ho, hle⟩ := h.row hl
    obtain ⟨ao, cap, rfl⟩ := own_form ho
    simp only [Int.toNat_natCast, List.getD_eq_getElem?_getD, hl, Option.getD_some]
    generalize to[y] = l at *
    have h1 := h.cell_to
    have h2 := h.cell_val hv
    have hn17 := h.hn
    clear hs hn hn' h ho hl hv
    go_enter Try.func27, Try.ntmps27
    go_wp2_with fail
    refine Hn.out.mono ?_
    rintro e w1 ⟨rfl, rfl⟩
    clear Hn
    go_wp2_with fail
    go_ret2
    exact ⟨rfl, rfl⟩

set_option maxHeartbeats 400000 in
theorem ref_get {a t vals to c} (x i : Int) (w : World) (h : RefRep w a t vals to c) :
    Calls Try.prog 38 #[.pointer (some ⟨a, 0, none⟩), .int .i64 x, .int .i64 i] w fun e w' => e = .returned (.tuple #[.agg #[.int .i64 (getM to x i).1.1, .string (getM to x i).1.2], .int .i64 (getM to x i).2]) ∧ Keeps [] w w' := by
  have hk0 : Keeps [] w (w.alloc (.cells #[.int .i64 0, .string ⟨#[]⟩] 83 (0, 0))) := (Keeps.refl _ _).alloc _
  have Hn := Lib.hid (ref_none x _ (h.keep hk0 (by simp)))
  by_cases hn : noNode to.length x = true
  · have hg : getM to x i = (zPk, 180) := by simp [getM, hn]
    rw [hn] at Hn
    rw [hg]
    clear hg hn h
    go_enter Try.func38, Try.ntmps38
    go_wp2_with fail
    refine Hn.out.mono ?_
    rintro e w1 ⟨rfl, rfl⟩
    clear Hn
    go_wp2_with fail
    exact bodyPost_ret (v := .tuple #[.agg #[.int .i64 0, .string ⟨#[]⟩], .int .i64 180]) (by simp [results, Try.results38, go_sem]) rfl ⟨rfl, by
      repeat (refine Keeps.setCell ?_ (.inr (by simp)) _)
      exact hk0⟩
  · have hn' : noNode to.length x = false := by simpa using hn
    rw [hn'] at Hn
    simp only [noNode, Bool.or_eq_false_iff, decide_eq_false_iff_not, Int.not_lt, Int.not_le] at hn'
    obtain ⟨hx0, hx1⟩ := hn'
    obtain ⟨y, rfl⟩ := Int.eq_ofNat_of_zero_le hx0
    have hy : y < to.length := by omega
    obtain ⟨l, hl⟩ : ∃ l, to[y]? = some l := ⟨_, List.getElem?_eq_getElem hy⟩
    obtain ⟨v, hv, ho, hle⟩ := h.row hl
    have h1 := h.cell_to
    have h2 := h.cell_val hv
    have ga := heap_lt h.ha
    have gt := heap_lt h.ht
    have hn17 := h.hn
    by_cases hi : i < 0 ∨ (l.length : Int) ≤ i
    · have hg : getM to y i = (zPk, 5) := by simp [getM, hn, List.getD_eq_getElem?_getD, hl, hi]
      rw [hg]
      clear hg hn
      obtain ⟨ao, cap, rfl⟩ := own_form ho
      clear h ho hl hv
      have fin : ∀ w' : World, Keeps [] w w' → True := fun _ _ => trivial
      by_cases hi0 : i < 0
      · clear hi
        go_enter Try.func38, Try.ntmps38
        go_wp2_with fail
        refine Hn.out.mono ?_
        rintro e w1 ⟨rfl, rfl⟩
        clear Hn
        go_wp2_with fail
        exact bodyPost_ret (v := .tuple #[.agg #[.int .i64 0, .string ⟨#[]⟩], .int .i64 5]) (by simp [results, Try.results38, go_sem]) rfl ⟨rfl, by
          repeat (refine Keeps.setCell ?_ (.inr (by simp)) _)
          exact hk0⟩
      · have hi1 := hi.resolve_left hi0
        clear hi
        go_enter Try.func38, Try.ntmps38
        go_wp2_with fail
        refine Hn.out.mono ?_
        rintro e w1 ⟨rfl, rfl⟩
        clear Hn
        go_wp2_with fail
        exact bodyPost_ret (v := .tuple #[.agg #[.int .i64 0, .string ⟨#[]⟩], .int .i64 5]) (by simp [results, Try.results38, go_sem]) rfl ⟨rfl, by
          repeat (refine Keeps.setCell ?_ (.inr (by simp)) _)
          exact hk0⟩
    · have hi0 : 0 ≤ i := by omega
      have hi1 : i < (l.length : Int) := by omega
      obtain ⟨j, rfl⟩ := Int.eq_ofNat_of_zero_le hi0
      have hj : j < l.length := by omega
      obtain ⟨p, hp⟩ : ∃ p, l[j]? = some p := ⟨_, List.getElem?_eq_getElem hj⟩
      have hg : getM to y j = (p, 0) := by
        simp [getM, hn, List.getD_eq_getElem?_getD, hl, hp]
        omega
      rw [hg]
      clear hg hn hi
      obtain ⟨g, cap, rfl, _, gg⟩ := ho.form (by omega)
      have h30 : w.cell? ⟨g, j * 2, none⟩ = some (.int .i64 p.1) := by
        rw [ho.cellAt _ (by omega)]; exact flat_get0 hp
      have h31 : w.cell? ⟨g, j * 2 + 1, none⟩ = some (.string p.2) := by
        rw [ho.cellAt _ (by omega)]; exact flat_get1 hp
      clear h ho hl hp hv
      go_enter Try.func38, Try.ntmps38
      go_wp2_with fail
      refine Hn.out.mono ?_
      rintro e w1 ⟨rfl, rfl⟩
      clear Hn
      go_wp2_with fail
      exact bodyPost_ret (v := .tuple #[.agg #[.int .i64 p.1, .string p.2], .int .i64 0]) (by simp [results, Try.results38, go_sem]) rfl ⟨rfl, by
        repeat (refine Keeps.setCell ?_ (.inr (by simp)) _)
        exact (Keeps.refl _ _).alloc _⟩

/-- A row, its head taken. -/
theorem SlC.cut {w : World} {l : List Pk} {n c : Nat} {ao : Option Addr} (h : SlC w (.slice ao n c) n 2 (l.flatMap encPk)) (hl : l.length = n) {j : Nat} (hj : j ≤ n) : SlC w (.slice ao j c) j 2 ((l.take j).flatMap encPk) := by
  obtain ⟨ao', c', e, h1, h2, h3⟩ := h
  cases e
  refine ⟨ao, c, rfl, by rw [flat_len, List.length_take]; omega, fun e => ⟨by have := (h2 e).1; omega, (h2 e).2⟩, fun b hb j' u hu => h3 b hb j' u ?_⟩
  rw [← flat_take, List.getElem?_take] at hu
  split at hu
  · exact hu
  · cases hu

theorem SlC.tail {w : World} {g : Nat} {l : List Pk} {c : Nat} (h : SlC w (.slice (some ⟨g, 0, none⟩) l.length c) l.length 2 (l.flatMap encPk)) {j : Nat} (hj : j < l.length) (hc : l.length ≤ c) :
    SlC w (.slice (if c = j + 1 then some ⟨g, 0, none⟩ else some ⟨g, (j + 1) * 2, none⟩) (l.length - (j + 1)) (c - (j + 1))) (l.length - (j + 1)) 2 ((l.drop (j + 1)).flatMap encPk) := by
  obtain ⟨ao', c', e, h1, h2, h3⟩ := h
  cases e
  refine ⟨_, _, rfl, by rw [flat_len, List.length_drop], ?_, ?_⟩
  · intro e
    split at e <;> cases e
  · intro b hb k u hu
    have hku : k < (l.length - (j + 1)) * 2 := by
      have := (List.getElem?_eq_some_iff.1 hu).1
      rw [flat_len, List.length_drop] at this
      exact this
    have h4 := h3 ⟨g, 0, none⟩ rfl ((j + 1) * 2 + k) u (by rw [← List.getElem?_drop, flat_drop]; exact hu)
    rw [addr_add, Nat.zero_add] at h4
    rw [if_neg (by omega)] at hb
    cases hb
    rw [addr_add]
    exact h4

set_option maxHeartbeats 400000 in
theorem ref_without (g c j : Nat) (l : List Pk) (w : World) (hn : l.length ≤ 4096) (hj : j < l.length) (hc : l.length ≤ c) (hcm : c ≤ maxLen) (hs : SlC w (.slice (some ⟨g, 0, none⟩) l.length c) l.length 2 (l.flatMap encPk)) :
    Calls Try.prog 39 #[.slice (some ⟨g, 0, none⟩) l.length c, .int .i64 j] w fun e w' => ∃ ao' c', e = .returned (.slice ao' (l.length - 1) c') ∧
      w'.ownsRow w.heap.size 83 2 (.slice ao' (l.length - 1) c') (l.length - 1) ((l.eraseIdx j).flatMap encPk) ∧ Keeps [] w w' := by
  unfold maxLen at hcm
  obtain ⟨n, hn'⟩ : ∃ n, n = l.length := ⟨_, rfl⟩
  have hs1 := Lib.hid (hs.cut rfl (Nat.le_of_lt hj))
  have hs2 := Lib.hid (hs.tail hj hc)
  have Hj := Lib.hid hj
  rw [← hn'] at hn hc hj hs2 ⊢
  have Hn := Lib.hid hn'
  clear hn' hs
  have b0 : (0 : Int) ≤ (j : Int) := by omega
  have b1 : (j : Int) ≤ (c : Int) := by omega
  have b2 : IntKind.i64.wrap ((j : Int) + 1) = (j : Int) + 1 := IntWalk.i64_in _ (by omega)
  have b3 : (0 : Int) ≤ (j : Int) + 1 := by omega
  have b4 : (j : Int) + 1 ≤ (n : Int) := by omega
  have b5 : (n : Int) ≤ (c : Int) := by omega
  have b6 : ((j : Int) + 1).toNat = j + 1 := by omega
  go_enter Try.func39, Try.ntmps39
  go_wp2_with fail
  refine wp_region_chain (fun _ => True) [0] [(1, 0), (2, 0), (3, 0), (5, 0), (6, 0), (7, 0), (8, 0), (0, 3), (4, 3), (9, 3), (10, 0)] (by kernel_rfl) (by kernel_rfl) (fun _ d _ _ _ h => by cases d <;> exact h) trivial ?_
  repeat (first
    | (refine wpC_pure (v := ?_) rfl (by rfl) ?_ ?_
       rotate_left 1
       · (intro w; go_simp; try with_reducible rfl)
       try simp only [Act.put, List.setIfInBounds_toArray, List.set_cons_zero, List.set_cons_succ, List.getElem_toArray, List.getElem_cons_succ, List.getElem_cons_zero]))
  refine wpC_last rfl (by rfl) (fun K hK => ?_)
  go_simp
  refine hK _ _ ?_
  clear hK K
  have hk1 : Keeps [] w (w.alloc (.cells #[] 83 (0, 0))) := (Keeps.refl _ _).alloc _
  have hmk := World.ownsRow_made (e := 83) (size := 2) (base := w.heap.size) w #[] 0 (Nat.le_refl _) (by simp [maxLen]) (by simp)
  refine wpC_last rfl (by rfl) (fun K hK => ?_)
  refine wp_append_any rt81 _ _ (by rfl) w.heap.size _ 0 [] (by rfl) hmk _ j ((l.take j).flatMap encPk) (by rfl) (hs1.out.keep (hk1.drew) (by simp)) (enc_one _) (by omega) (by unfold maxLen; omega) (by simp) ?_
  intro ao1 cp1 w1 hown1 hgrow1 hat1 hnil1
  have hk2 : Keeps [] w w1 := hk1.drew.grown hgrow1 (fun k h => .inr (by simp [Value.ownBlock] at h; omega))
  refine hK _ _ ?_
  clear hK K
  try simp only [Act.put, List.setIfInBounds_toArray, List.set_cons_zero, List.set_cons_succ, List.getElem_toArray, List.getElem_cons_succ, List.getElem_cons_zero]
  refine wpC_last rfl (by rfl) (fun K hK => ?_)
  refine wp_append_any rt81 _ _ (by rfl) w.heap.size _ _ _ (by rfl) hown1 _ (n - (j + 1)) ((l.drop (j + 1)).flatMap encPk) (by rfl) (hs2.out.keep hk2 (by simp)) (enc_one _) (by omega) (by unfold maxLen; omega) hk2.size ?_
  intro ao2 cp2 w2 hown2 hgrow2 hat2 hnil2
  have hob : ∀ k, (Value.slice ao1 (0 + j) cp1).ownBlock = some k → w.heap.size ≤ k := fun k h => (hown1.lt k h).1
  have hk3 : Keeps [] w w2 := hk2.grown hgrow2 (fun k h => .inr (hob k h))
  refine hK _ _ ?_
  clear hK K
  try simp only [Act.put, List.setIfInBounds_toArray, List.set_cons_zero, List.set_cons_succ, List.getElem_toArray, List.getElem_cons_succ, List.getElem_cons_zero]
  repeat (first
    | (refine wpC_pure (v := ?_) rfl (by rfl) ?_ ?_
       rotate_left 1
       · (intro w; go_simp; try with_reducible rfl)
       try simp only [Act.put, List.setIfInBounds_toArray, List.set_cons_zero, List.set_cons_succ, List.getElem_toArray, List.getElem_cons_succ, List.getElem_cons_zero]))
  refine wpC_nil ?_
  have Hown := Lib.hid hown2
  clear hown2 hown1 hnil2 hat2 hgrow2 hnil1 hat1 hgrow1 hmk
  generalize (if c = j + 1 then (some (⟨g, 0, none⟩ : Addr)) else some ⟨g, (j + 1) * 2, none⟩) = src
  go_wp2_with fail
  go_ret
  refine ⟨ao2, cp2, ?_, ?_, hk3⟩
  · show Ending.returned (Value.slice ao2 (j + (n - (j + 1))) cp2) = _
    rw [show j + (n - (j + 1)) = n - 1 by omega]
  have := Hown.out
  have en2 : 0 + j + (n - (j + 1)) = n - 1 := by omega
  rw [en2] at this
  rw [List.nil_append, ← List.flatMap_append, ← List.eraseIdx_eq_take_drop_succ] at this
  exact this

end Go.Proofs.Ytgkdlpbnhjfkdaa
