/- Contract of pulling a packet off its way. Conditions: those of each theorem. -/
import Derived.Test.YtgkdlpbnhjfkdaaNetE
namespace Go.Proofs.Ytgkdlpbnhjfkdaa
open Go.RowKit

def blocksOf (a t : Nat) (vals : List Value) : List Nat := a :: t :: vals.filterMap Value.ownBlock

/-- What a call does to the memory of a net. -/
structure NetStep (w w' : World) (a t : Nat) (vals vals' : List Value) : Prop where
  keeps : Keeps (blocksOf a t vals) w w'
  sub : ∀ x ∈ blocksOf a t vals', x ∈ blocksOf a t vals ∨ w.heap.size ≤ x

theorem NetStep.same {w w' : World} {a t vals} (h : Keeps [] w w') : NetStep w w' a t vals vals := ⟨h.mono (by simp), fun _ h => .inl h⟩

theorem NetStep.trans {w w1 w2 : World} {a t v0 v1 v2} (h : NetStep w w1 a t v0 v1) (k : NetStep w1 w2 a t v1 v2) : NetStep w w2 a t v0 v2 :=
  ⟨h.keeps.trans k.keeps (fun x hx hlt => (h.sub x hx).resolve_right (by omega)), fun x hx => by
    rcases k.sub x hx with h1 | h1
    · exact h.sub x h1
    · exact .inr (Nat.le_trans h.keeps.size h1)⟩

def pullM (to : List (List Pk)) (c : List Int) (x i : Int) (k : Nat) : List (List Pk) × List Int :=
  if (getM to x i).2 = 0 then (to.set x.toNat ((to.getD x.toNat []).eraseIdx i.toNat), c.set k (wrap64 (c.getD k 0 + 1))) else (to, c)

theorem getM_cases (to : List (List Pk)) (x i : Int) : ((getM to x i).2 = 180 ∧ (getM to x i).1 = zPk) ∨ ((getM to x i).2 = 5 ∧ (getM to x i).1 = zPk) ∨
    ∃ (y j : Nat) (l : List Pk) (p : Pk), x = y ∧ i = j ∧ to[y]? = some l ∧ l[j]? = some p ∧ getM to x i = (p, 0) := by
  unfold getM
  by_cases hn : noNode to.length x = true
  · left; simp [hn]
  · right
    have hn' : noNode to.length x = false := by simpa using hn
    simp only [noNode, Bool.or_eq_false_iff, decide_eq_false_iff_not, Int.not_lt, Int.not_le] at hn'
    obtain ⟨y, rfl⟩ := Int.eq_ofNat_of_zero_le hn'.1
    have hy : y < to.length := by omega
    have hl : to[y]? = some to[y] := List.getElem?_eq_getElem hy
    simp only [hn, if_false, Bool.false_eq_true, Int.toNat_natCast, List.getD_eq_getElem?_getD, hl, Option.getD_some]
    by_cases hi : i < 0 ∨ ((to[y]).length : Int) ≤ i
    · left; simp [hi]
    · right
      obtain ⟨j, rfl⟩ := Int.eq_ofNat_of_zero_le (show 0 ≤ i by omega)
      have hj : j < (to[y]).length := by omega
      refine ⟨y, j, to[y], (to[y])[j], rfl, rfl, hl, List.getElem?_eq_getElem hj, ?_⟩
      simp only [hi, if_false, Int.toNat_natCast, List.getElem?_eq_getElem hj, Option.getD_some]

set_option maxHeartbeats 400000 in
theorem pull_no {a t vals to c} (x i : Int) (k : Int) (w : World) (h : NetRep w a t vals to c) (hne : (getM to x i).2 = 180 ∨ (getM to x i).2 = 5) :
    Calls Try.prog 21 #[.pointer (some ⟨a, 0, none⟩), .int .i64 x, .int .i64 i, .int .i64 k] w fun e w' => e = .returned (.tuple #[.agg #[.int .i64 (getM to x i).1.1, .string (getM to x i).1.2], .int .i64 (getM to x i).2]) ∧ Keeps [] w w' := by
  have hk0 : Keeps [] w (w.alloc (.cells #[.int .i64 0, .string ⟨#[]⟩] 68 (0, 0))) := (Keeps.refl _ _).alloc _
  have Ha := Lib.hid (at_any x i _ (h.keep hk0 (by simp)))
  clear h
  have h60 := heap_alloc_new w (.cells #[.int .i64 0, .string ⟨#[]⟩] 68 (0, 0))
  have hne' : ((getM to x i).2 == 0) = false := by rcases hne with h | h <;> rw [h] <;> rfl
  clear hne
  generalize getM to x i = r at *
  obtain ⟨⟨fr, s⟩, e0⟩ := r
  simp only at hne' Ha ⊢
  go_enter Try.func21, Try.ntmps21
  go_wp2_with fail
  refine Ha.out.mono ?_
  rintro e w1 ⟨rfl, hk⟩
  have h6 := hk.heap h60 (by simp)
  have g6 := heap_lt h6
  have h60' := cell_of_row w1 w.heap.size 0 _ _ _ h6
  have h61' := cell_of_row w1 w.heap.size 1 _ _ _ h6
  have h6z0 : w1.frozen? ⟨w.heap.size, 0, none⟩ = false := by simp [World.frozen?, h6]
  have h6z1 : w1.frozen? ⟨w.heap.size, 1, none⟩ = false := by simp [World.frozen?, h6]
  have hk1 := hk0.then hk
  clear h60 h6 hk hk0
  go_wp2_with fail
  exact bodyPost_ret (v := .tuple #[.agg #[.int .i64 fr, .string s], .int .i64 e0]) (by simp [results, Try.results21, go_sem, h60', h61', g6]) rfl ⟨rfl, ((hk1.setCell (.inr (by simp)) _).setCell (.inr (by simp)) _).alloc _⟩

theorem NetRep.row {w a t vals to c} (h : NetRep w a t vals to c) {y : Nat} {l : List Pk} (hl : to[y]? = some l) : ∃ v, vals[y]? = some v ∧ w.ownsRow 0 68 2 v l.length (l.flatMap encPk) ∧ l.length ≤ 4096 := by
  have hy : y < vals.length := by rw [h.hl]; exact (List.getElem?_eq_some_iff.1 hl).1
  exact ⟨_, List.getElem?_eq_getElem hy, h.hr y _ l (List.getElem?_eq_getElem hy) hl⟩

theorem NetRep.step {w w1 : World} {a t vals to c} (h : NetRep w a t vals to c) {i k : Nat} {v v' : Value} {l l' : List Pk} {x : Int} (hv : vals[i]? = some v) (hi : to[i]? = some l)
    (hk : k < 4) (hl' : l'.length ≤ 4096) (hown : w1.ownsRow 0 68 2 v' l'.length (l'.flatMap encPk)) (hkeep : Keeps v.ownBlock.toList w w1) (hat : v'.ownBlock = v.ownBlock ∨ ∃ H, v'.ownBlock = some H ∧ w.heap.size ≤ H) :
    NetRep ((w1.setCell ⟨t, i, none⟩ v').setCell ⟨a, 1 + k, none⟩ (.int .i64 x)) a t (vals.set i v') (to.set i l') (c.set k x) ∧
    NetStep w ((w1.setCell ⟨t, i, none⟩ v').setCell ⟨a, 1 + k, none⟩ (.int .i64 x)) a t vals (vals.set i v') := by
  obtain ⟨h1, h2⟩ := h.turned (x := x) hv hi hk hl' hown hkeep hat
  refine ⟨h1, h2, ?_⟩
  have hlt := h.blocks_lt
  have hnv := h.nd
  simp only [List.nodup_cons] at hnv
  intro x hx
  unfold blocksOf at *
  rcases hat with e | ⟨H, e, hH⟩
  · obtain ⟨_, h2⟩ := nodup_set_blocks vals i _ _ w.heap.size hv (.inl e) (fun y hy => hlt y (by simp [hy])) hnv.2.2
    simp only [List.mem_cons] at hx ⊢
    rcases hx with rfl | rfl | hx
    · exact .inl (.inl rfl)
    · exact .inl (.inr (.inl rfl))
    · rcases h2 x hx with h3 | h3
      · exact .inl (.inr (.inr h3))
      · exact .inr (by omega)
  · obtain ⟨_, h2⟩ := nodup_set_blocks vals i _ _ H hv (.inr e) (fun y hy => by have := hlt y (by simp [hy]); omega) hnv.2.2
    simp only [List.mem_cons] at hx ⊢
    rcases hx with rfl | rfl | hx
    · exact .inl (.inl rfl)
    · exact .inl (.inr (.inl rfl))
    · rcases h2 x hx with h3 | h3
      · exact .inl (.inr (.inr h3))
      · exact .inr (by omega)

theorem NetRep.cell_c {w a t vals to c} (h : NetRep w a t vals to c) {k : Nat} (hk : k < 4) : w.cell? ⟨a, 1 + k, none⟩ = some (.int .i64 (c.getD k 0)) := by
  rw [cell_of_row w a (1 + k) _ _ _ h.ha]
  have := h.hc
  simp [netCells, Nat.add_comm 1 k, List.getElem?_map, List.getD_eq_getElem?_getD, List.getElem?_eq_getElem (show k < c.length by omega)]

set_option maxHeartbeats 1000000 in
theorem pull_yes {a t vals to c} (y j k : Nat) (l : List Pk) (p : Pk) (w : World) (h : NetRep w a t vals to c) (hl : to[y]? = some l) (hp : l[j]? = some p) (hk4 : k < 4) (hg : getM to y j = (p, 0)) :
    Calls Try.prog 21 #[.pointer (some ⟨a, 0, none⟩), .int .i64 y, .int .i64 j, .int .i64 k] w fun e w' => e = .returned (.tuple #[.agg #[.int .i64 p.1, .string p.2], .int .i64 0]) ∧
      ∃ vals', NetRep w' a t vals' (to.set y (l.eraseIdx j)) (c.set k (wrap64 (c.getD k 0 + 1))) ∧ NetStep w w' a t vals vals' := by
  have hk0 : Keeps [] w (w.alloc (.cells #[.int .i64 0, .string ⟨#[]⟩] 68 (0, 0))) := (Keeps.refl _ _).alloc _
  have Ha := Lib.hid (at_any y j _ (h.keep hk0 (by simp)))
  rw [hg] at Ha
  clear hg
  have h60 := heap_alloc_new w (.cells #[.int .i64 0, .string ⟨#[]⟩] 68 (0, 0))
  obtain ⟨v, hv, ho, hle⟩ := h.row hl
  have hjl : j < l.length := (List.getElem?_eq_some_iff.1 hp).1
  have hyl : y < to.length := (List.getElem?_eq_some_iff.1 hl).1
  have hn17 := h.hn
  obtain ⟨fr, s⟩ := p
  simp only at Ha ⊢
  have hne' : ((0 : Int) == 0) = true := rfl
  -- the row
  rcases ho.2 with ⟨rfl, h0⟩ | ⟨g, cap, cur, rfl, _, hgc, hnc, hmc, hcs, hct⟩
  · omega
  have fa := h.far_a hv
  have ft := h.far_t hv
  have hat := h.a_ne_t
  have H := Lib.hid h
  have Hl := Lib.hid hl
  have Hv := Lib.hid hv
  have Hcs := Lib.hid hcs
  have Hct := Lib.hid hct
  clear h hl hp ho hcs hct
  simp only [Value.ownBlock, ne_eq, Option.some.injEq] at fa ft
  go_enter Try.func21, Try.ntmps21
  go_wp2_with fail
  refine Ha.out.mono ?_
  rintro e w1 ⟨rfl, hk⟩
  have hw1 := hk0.then hk
  have hs1 := hw1.size
  have hR1 := H.out.keep hw1 (by simp)
  have hg1 := hw1.heap hgc (by simp)
  have h6 := hk.heap h60 (by simp)
  have c6 := cell_of_row w1 w.heap.size 0 _ _ _ h6
  have c6' := cell_of_row w1 w.heap.size 1 _ _ _ h6
  have z6 : w1.frozen? ⟨w.heap.size, 0, none⟩ = false := by simp [World.frozen?, h6]
  have z6' : w1.frozen? ⟨w.heap.size, 1, none⟩ = false := by simp [World.frozen?, h6]
  have ca := hR1.cell_to
  have cv := hR1.cell_val Hv.out
  have ga := World.block_lt_of_cell? w1 _ ca
  have gt := World.block_lt_of_cell? w1 _ cv
  have gg := heap_lt hg1
  have g6 := heap_lt h6
  have n6a : w.heap.size ≠ a := by have := heap_lt H.out.ha; omega
  have n6t : w.heap.size ≠ t := by have := heap_lt H.out.ht; omega
  have n6g : w.heap.size ≠ g := by have := heap_lt hgc; omega
  simp only at ga gt
  have Hc := Lib.hid hR1
  have Hg1 := Lib.hid hg1
  have H6 := Lib.hid h6
  have Hgc := Lib.hid hgc
  have Hv2 := Lib.hid hv
  clear hR1 hg1 h6 h60 hgc hk hk0 Ha Hv hv
  go_wp2_with fail
  have hkA : Keeps [] w1 (w1.alloc (.cells #[.int .i64 fr, .string s] 68 (0, 0))).drew := ((Keeps.refl _ _).alloc _).drew
  have hD := Lib.hid (delete_any l j g cap cur _ hjl (hkA.heap Hg1.out (by simp)) hnc hle hmc Hcs.out Hct.out)
  have b0 : (0 : Int) ≤ (y : Int) := by omega
  have b1 : (y : Int) < (to.length : Int) := by omega
  have b2 : IntKind.i64.wrap ((j : Int) + 1) = (j : Int) + 1 := IntWalk.i64_in _ (by omega)
  refine wp_region_chain (fun w' => w'.cell? ⟨a, 0, none⟩ = some (.slice (some ⟨t, 0, none⟩) to.length to.length) ∧ w'.cell? ⟨t, y, none⟩ = some (.slice (some ⟨g, 0, none⟩) l.length cap)) [17]
    [(0, 0), (1, 0), (2, 0), (3, 1), (4, 0), (5, 0), (6, 0), (7, 0), (8, 1), (9, 0), (10, 0), (11, 1), (12, 0), (13, 0), (14, 0), (15, 2), (16, 0), (17, 3)] (by kernel_rfl) (by kernel_rfl) (fun _ d _ _ _ h => by cases d <;> exact h) (by go_simp) ?_
  repeat (first
    | (refine wpC_pure (v := ?_) rfl (by rfl) ?_ ?_
       rotate_left 1
       · (intro w; go_simp; try with_reducible rfl)
       try simp only [Act.put, List.setIfInBounds_toArray, List.set_cons_zero, List.set_cons_succ, List.getElem_toArray, List.getElem_cons_succ, List.getElem_cons_zero])
    | (refine wpC_held (v := ?_) rfl (by rfl) ?_ ?_
       rotate_left 1
       · (rintro w ⟨hs1, hs2⟩; go_simp; try with_reducible rfl)
       try simp only [Act.put, List.setIfInBounds_toArray, List.set_cons_zero, List.set_cons_succ, List.getElem_toArray, List.getElem_cons_succ, List.getElem_cons_zero]))
  refine wpC_step rfl (by rfl) (fun K hK => ?_)
  go_simp
  refine hD.out.mono ?_
  rintro e w2 ⟨rfl, hown, hk2⟩
  have ca0 : (w1.alloc (.cells #[.int .i64 fr, .string s] 68 (0, 0))).drew.cell? ⟨a, 0, none⟩ = some (.slice (some ⟨t, 0, none⟩) to.length to.length) := hkA.cell ca (by simp)
  have cv0 : (w1.alloc (.cells #[.int .i64 fr, .string s] 68 (0, 0))).drew.cell? ⟨t, y, none⟩ = some (.slice (some ⟨g, 0, none⟩) l.length cap) := hkA.cell cv (by simp)
  have ca2 := hk2.cell ca0 (by simp; omega)
  have cv2 := hk2.cell cv0 (by simp; omega)
  refine hK _ _ ⟨ca2, cv2⟩ ?_
  clear hK K
  have hkw : Keeps [g] w1 w2 := (hkA.mono (S' := [g]) (by simp)).trans hk2 (by simp)
  have hst := Hc.out.step (v' := .slice (some ⟨g, 0, none⟩) (l.length - 1) cap) (l' := l.eraseIdx j) (x := wrap64 (c.getD k 0 + 1)) Hv2.out Hl.out hk4 (by rw [List.length_eraseIdx_of_lt hjl]; omega) (by rw [List.length_eraseIdx_of_lt hjl]; exact hown) (by simpa [Value.ownBlock] using hkw) (.inl rfl)
  have Hst := Lib.hid hst
  have zt2 : w2.frozen? ⟨t, y, none⟩ = false := by simp [World.frozen?, hkw.heap Hc.out.ht (by simpa using Ne.symm ft)]
  have hck : ((w2.setCell ⟨t, y, none⟩ (.slice (some ⟨g, 0, none⟩) (l.length - 1) cap)).cell? ⟨a, 1 + k, none⟩) = some (.int .i64 (c.getD k 0)) := by
    rw [World.cell?_setCell_far _ _ _ _ (by simp; omega)]
    exact hkw.cell (Hc.out.cell_c hk4) (by simp; omega)
  have hfk : ((w2.setCell ⟨t, y, none⟩ (.slice (some ⟨g, 0, none⟩) (l.length - 1) cap)).frozen? ⟨a, 1 + k, none⟩) = false := by
    simp [World.frozen?, heap_set_other (a := ⟨t, y, none⟩) (v := .slice (some ⟨g, 0, none⟩) (l.length - 1) cap) (hkw.heap Hc.out.ha (by simp; omega)) hat]
  have Hck := Lib.hid hck
  have Hadd := Lib.hid (add_any a (1 + k) _ 1 _ hck hfk)
  have hpB : (w1.alloc (.cells #[.int .i64 fr, .string s] 68 (0, 0))).heap[w1.heap.size]? = some (.cells #[.int .i64 fr, .string s] 68 (0, 0)) := heap_alloc_new _ _
  have hpB2 := hk2.heap (k := w1.heap.size) hpB (by simp; omega)
  have g2 := heap_lt hpB2
  have d6 : w2.heap[w.heap.size]? = some (.cells #[.int .i64 0, .string ⟨#[]⟩] 68 (0, 0)) := hkw.heap H6.out (by simp; omega)
  have d60 := cell_of_row w2 w.heap.size 0 _ _ _ d6
  have d61 := cell_of_row w2 w.heap.size 1 _ _ _ d6
  have d60z : w2.frozen? ⟨w.heap.size, 0, none⟩ = false := by simp [World.frozen?, d6]
  have d61z : w2.frozen? ⟨w.heap.size, 1, none⟩ = false := by simp [World.frozen?, d6]
  have e60 := cell_of_row w2 w1.heap.size 0 _ _ _ hpB2
  have e61 := cell_of_row w2 w1.heap.size 1 _ _ _ hpB2
  have n1a : w1.heap.size ≠ a := by omega
  have n1t : w1.heap.size ≠ t := by omega
  have n16 : w.heap.size ≠ w1.heap.size := by omega
  clear hst hck hfk hpB hpB2 d6 hown hD hk2 hkw hkA ca cv c6 c6' z6 z6' ca0 cv0 b0 b1 b2
  repeat (first
    | (refine wpC_pure (v := ?_) rfl (by rfl) ?_ ?_
       rotate_left 1
       · (intro w; go_simp; try with_reducible rfl)
       try simp only [Act.put, List.setIfInBounds_toArray, List.set_cons_zero, List.set_cons_succ, List.getElem_toArray, List.getElem_cons_succ, List.getElem_cons_zero])
    | (refine wpC_held (v := ?_) rfl (by rfl) ?_ ?_
       rotate_left 1
       · (rintro w ⟨hs1, hs2⟩; go_simp; try with_reducible rfl)
       try simp only [Act.put, List.setIfInBounds_toArray, List.set_cons_zero, List.set_cons_succ, List.getElem_toArray, List.getElem_cons_succ, List.getElem_cons_zero]))
  refine wpC_last rfl (by rfl) (fun K hK => ?_)
  go_simp
  refine hK _ _ ?_
  clear hK K
  refine wpC_nil ?_
  go_wp2_with fail
  refine Hadd.out.mono ?_
  rintro e w' ⟨rfl, rfl⟩
  clear Hadd
  go_wp2_with fail
  refine bodyPost_ret (v := .tuple #[.agg #[.int .i64 fr, .string s], .int .i64 0]) (by simp [results, Try.results21, go_sem, d60, d61, n6a, n6t, Ne.symm n6a, Ne.symm n6t]) rfl ⟨rfl, vals.set y (.slice (some ⟨g, 0, none⟩) (l.length - 1) cap), ?_, ?_⟩
  · have hsub := Hst.out.2.sub
    have hlt := H.out.blocks_lt
    have hnm : ∀ x ∈ a :: t :: (vals.set y (Value.slice (some ⟨g, 0, none⟩) (l.length - 1) cap)).filterMap Value.ownBlock, x ∉ [w.heap.size] := by
      intro x hx hm
      simp only [List.mem_singleton] at hm
      rcases hsub x hx with h1 | h1
      · have := hlt x h1; omega
      · omega
    exact Hst.out.1.keep (((Keeps.refl [w.heap.size] _).setCell (.inl (by simp)) _).setCell (.inl (by simp)) _) hnm
  · have h1 := (NetStep.same (a := a) (t := t) (vals := vals) hw1).trans Hst.out.2
    exact ⟨(h1.keeps.setCell (.inr (by simp)) _).setCell (.inr (by simp)) _, h1.sub⟩
end Go.Proofs.Ytgkdlpbnhjfkdaa
