/- Contract of Clear, walked. Conditions: those of the theorem. -/
import Derived.Test.YtgkdlpbnhjfkdaaNetN
namespace Go.Proofs.Ytgkdlpbnhjfkdaa
open Go.RowKit

/-- Clear: what is left, the counts, how many were lost, what is wrong. -/
def clearM (to : List (List Pk)) (c : List Int) (node : Int) : List (List Pk) × List Int × Int × Int :=
  if noNode to.length node = true then (to, c, 0, 180) else (clrTo node to to.length, c.set 1 (wrap64 (c.getD 1 0 + (lostTo node to to.length : Nat))), lostTo node to to.length, 0)

theorem own_base {w : World} {base base' e size : Nat} {v : Value} {n : Nat} {xs : List Value} (h : w.ownsRow base e size v n xs) (hb : base' ≤ base) : w.ownsRow base' e size v n xs := by
  refine ⟨h.1, ?_⟩
  rcases h.2 with h2 | ⟨g, cap, cur, rfl, hb2, r⟩
  · exact .inl h2
  · exact .inr ⟨g, cap, cur, rfl, by omega, r⟩

theorem NetRep.counted {w : World} {a t vals to c} (h : NetRep w a t vals to c) {k : Nat} (x : Int) : NetRep (w.setCell ⟨a, 1 + k, none⟩ (.int .i64 x)) a t vals to (c.set k x) ∧ NetStep w (w.setCell ⟨a, 1 + k, none⟩ (.int .i64 x)) a t vals vals := by
  refine ⟨⟨?_, heap_set_other h.ht (Ne.symm h.a_ne_t), by simp [h.hc], h.hl, h.hn, fun i v l hv hl => ⟨own_set_other (h.hr i v l hv hl).1 _ (by simpa using h.far_a hv), (h.hr i v l hv hl).2⟩, h.nd⟩, (Keeps.refl _ _).setCell (.inl (by simp [blocksOf])) _, fun x hx => .inl hx⟩
  have h3 := heap_set_self (o := 1 + k) (v := .int .i64 x) h.ha
  rw [h3]
  simp only [netCells, List.setIfInBounds_toArray, Option.some.injEq, Obj.cells.injEq, and_true]
  rw [Nat.add_comm 1 k, List.set_cons_succ, List.map_set]

set_option maxRecDepth 100000 in
set_option maxHeartbeats 2000000 in
theorem clear_any {a t vals to c} (node : Int) (w : World) (h : NetRep w a t vals to c) :
    Calls Try.prog 16 #[.pointer (some ⟨a, 0, none⟩), .int .i64 node] w fun e w' => e = .returned (.tuple #[.int .i64 (clearM to c node).2.2.1, .int .i64 (clearM to c node).2.2.2]) ∧
      NetPost w w' a t vals (clearM to c node).1 (clearM to c node).2.1 := by
  have hk0 : Keeps [] w ((w.alloc (.cells #[.int .i64 node] 3 (0, 0))).alloc (.cells #[.int .i64 node] 3 (0, 0))) := ((Keeps.refl _ _).alloc _).alloc _
  have h30 : ((w.alloc (.cells #[.int .i64 node] 3 (0, 0))).alloc (.cells #[.int .i64 node] 3 (0, 0))).heap[w.heap.size]? = some (.cells #[.int .i64 node] 3 (0, 0)) :=
    (Below.heap_alloc _ _ _ (by simp)).trans (heap_alloc_new _ _)
  have Hn := Lib.hid (nodes_any a to.length to.length (w.heap.size + 1) 0 1 1 _ [node] _ (by omega) (hk0.cell h.cell_to (by simp)) rfl (cells_ints [node] (heap_top (by simp)) rfl))
  rw [allNodes_one] at Hn
  have hlen : ∀ l ∈ to, l.length ≤ 4096 := by
    intro l hl
    obtain ⟨i, hi, rfl⟩ := List.getElem_of_mem hl
    obtain ⟨v, _, _, h3⟩ := h.row (List.getElem?_eq_getElem hi)
    exact h3
  have hn17 := h.hn
  have ga := heap_lt h.ha
  have gt := heap_lt h.ht
  have hlt := h.blocks_lt
  have H := Lib.hid h
  by_cases hn : noNode to.length node = true
  · have hs : clearM to c node = (to, c, 0, 180) := by simp only [clearM]; rw [if_pos hn]
    rw [hs]
    rw [hn] at Hn
    clear hs hn h hlen
    go_enter Try.func16, Try.ntmps16
    go_wp2_with fail
    refine Hn.out.mono ?_
    rintro e w1 ⟨rfl, hk⟩
    clear Hn
    go_wp2_with fail
    go_ret2
    exact ⟨rfl, vals, H.out.keep (hk0.then hk) (by simp), NetStep.same (hk0.then hk)⟩
  · have hs : clearM to c node = (clrTo node to to.length, c.set 1 (wrap64 (c.getD 1 0 + (lostTo node to to.length : Nat))), (lostTo node to to.length : Int), 0) := by simp only [clearM]; rw [if_neg hn]
    rw [hs]
    have hn' : noNode to.length node = false := by simpa using hn
    rw [hn'] at Hn
    have Hlen := Lib.hid hlen
    clear hs hn hn' h hlen
    go_enter Try.func16, Try.ntmps16
    go_wp2_with fail
    refine Hn.out.mono ?_
    rintro e w1 ⟨rfl, hk⟩
    have hk1 := hk0.then hk
    have hR1 := H.out.keep hk1 (by simp)
    have h31 := hk.heap h30 (by simp)
    have ca := hR1.cell_to
    have H1 := Lib.hid hR1
    have H31 := Lib.hid h31
    clear Hn hk h30 hR1 h31 hk0
    go_wp2_with fail
    clear ca
    go_loopw [6, 20] (fun m j wr => ∃ (j' : Nat) (vj : List Value), j' ≤ to.length ∧ j = .int .i64 j' ∧ m = .int .i64 (lostTo node to j' : Nat) ∧ NetRep wr a t vj (clrTo node to j') c ∧ NetStep w wr a t vals vj ∧ wr.heap[w.heap.size]? = some (.cells #[.int .i64 node] 3 (0, 0))) (fun _ j _ => to.length - (intOf j).toNat)
    case atStart => exact ⟨0, vals, Nat.zero_le _, rfl, rfl, by rw [clrTo_zero]; exact H1.out, NetStep.same hk1, H31.out⟩
    case round =>
      obtain ⟨j, vj, hj, rfl, rfl, hR, hS, hN⟩ := hrel
      clear H1 H31 hk1 w1
      have hlo := lostTo_le node to Hlen.out j
      by_cases hjl : j < to.length
      · have hl0 : to[j]? = some to[j] := List.getElem?_eq_getElem hjl
        have hlj := clrTo_get node to j hl0
        have hst := clrTo_step node to j hl0
        have hls : lostTo node to (j + 1) = lostTo node to j + ((to[j]).length - (clr node j to[j]).length) := by
          simp only [lostTo, List.getD_eq_getElem?_getD, hl0, Option.getD_some]
        have hle0 := Hlen.out to[j] (List.getElem_mem hjl)
        have hle1 : (clr node j to[j]).length ≤ (to[j]).length := List.length_filter_le _ _
        generalize to[j] = l at *
        obtain ⟨v, hv, ho, _⟩ := hR.row hlj
        obtain ⟨ao, cp, rfl⟩ := own_form ho
        have cv := hR.cell_val hv
        have ct := hR.cell_to
        have cn := cell_of_row wr w.heap.size 0 _ _ _ hN
        have gn := heap_lt hN
        have ga' := heap_lt hR.ha
        have gt' := heap_lt hR.ht
        have hA : Keeps [] wr (wr.alloc (.cells #[.int .i64 j] 3 (0, 0))) := (Keeps.refl _ _).alloc _
        have HC := Lib.hid (clone_any _ l _ hle0 (own_kept ho hA (by simp)))
        have hB : (wr.alloc (.cells #[.int .i64 j] 3 (0, 0))).heap[wr.heap.size]? = some (.cells #[.int .i64 j] 3 (0, 0)) := heap_alloc_new _ _
        have Hst := Lib.hid hst
        have Hls := Lib.hid hls
        have HR := Lib.hid hR
        have Hl0 := Lib.hid hlj
        have Ho := Lib.hid ho
        have Hv := Lib.hid hv
        clear hst hls hR hlj ho hv hl0
        go_wp2_with fail
        refine HC.out.mono ?_
        rintro e w2 ⟨ao2, cp2, rfl, hown2, hk2⟩
        have hA2 := hA.then hk2
        have hB2 := hk2.heap hB (by simp)
        have hN2 := hA2.heap hN (by simp)
        have hob : ∀ b, (Value.slice ao2 l.length cp2).ownBlock = some b → wr.heap.size + 1 ≤ b := fun b hb => by have := (hown2.lt b hb).1; simpa using this
        have hPr : PredPk w2 (Value.slice ao2 l.length cp2).ownBlock.toList 32 #[.pointer (some ⟨wr.heap.size, 0, none⟩), .pointer (some ⟨w.heap.size, 0, none⟩)] (fun p => (j : Int) == node || p.1 == node) := by
          intro w' x hk'
          refine clearFn_any x.1 x.2 wr.heap.size w.heap.size j node w' ?_ ?_
          · have := hk'.heap hB2 (fun hm => by have := hob _ (by simpa using hm); omega)
            rw [cell_of_row _ _ 0 _ _ _ this]; rfl
          · have := hk'.heap hN2 (fun hm => by have := hob _ (by simpa using hm); omega)
            rw [cell_of_row _ _ 0 _ _ _ this]; rfl
        have HD := Lib.hid (deleteFunc_any _ _ l w2 _ 32 _ hle0 hown2 (fun _ _ => by simp [go_sem]) hPr)
        clear HC hPr cv ct cn hB hA
        go_wp2_with fail
        refine HD.out.mono ?_
        rintro e w3 ⟨ao3, cp3, rfl, hown3, hk3⟩
        clear HD
        have hown3' : w3.ownsRow (wr.alloc (.cells #[.int .i64 j] 3 (0, 0))).heap.size 68 2 (.slice ao3 (clr node j l).length cp3) (clr node j l).length ((clr node j l).flatMap encPk) := hown3
        rw [show List.filter (fun x => !((j : Int) == node || x.fst == node)) l = clr node j l from rfl]
        clear hown3 hown2
        generalize clr node j l = l' at *
        have hS2 : ∀ x ∈ (Value.slice ao2 l.length cp2).ownBlock.toList, wr.heap.size + 1 ≤ x := fun x hx => hob x (by simpa using hx)
        have hk4 : Keeps [] wr w3 := (hA2.trans (S' := (Value.slice ao2 l.length cp2).ownBlock.toList) hk3 (fun x hx hlt => by have := hS2 x hx; omega))
        have hB3 := hk3.heap hB2 (fun hm => by have := hS2 _ hm; omega)
        have hN3 := hk3.heap hN2 (fun hm => by have := hS2 _ hm; omega)
        have hR3 := HR.out.keep hk4 (by simp)
        have ca3 := hR3.cell_to
        rw [clrTo_len] at ca3
        have cv3 := hR3.cell_val Hv.out
        have cB3 := cell_of_row _ _ 0 _ _ _ hB3
        have zt3 : w3.frozen? ⟨t, j, none⟩ = false := by simp [World.frozen?, hR3.ht]
        have hfin := HR.out.rowed (w1 := w3) (v' := .slice ao3 l'.length cp3) (l' := l') Hv.out Hl0.out (by omega) (own_base hown3' (Nat.zero_le _)) (hk4.mono (by simp)) (by
          cases hb3 : (Value.slice ao3 l'.length cp3).ownBlock with
          | none => exact .inr (.inl rfl)
          | some b => exact .inr (.inr ⟨b, rfl, by have := (hown3'.lt b hb3).1; simp at this; omega⟩))
        rw [← Hst.out] at hfin
        have Hfin := Lib.hid hfin
        have HN3 := Lib.hid hN3
        have b0 : (0 : Int) ≤ (j : Int) := by omega
        have b1 : (j : Int) < (to.length : Int) := by omega
        have ntn : t ≠ w.heap.size := by omega
        clear hfin hR3 hB3 hN3 hB2 hN2 hown3' hk2 hk3 hk4 hA2 hob hS2
        go_wp2_with fail
        refine wp_region_chain (fun w' => w'.cell? ⟨a, 0, none⟩ = some (.slice (some ⟨t, 0, none⟩) to.length to.length) ∧ w'.cell? ⟨wr.heap.size, 0, none⟩ = some (.int .i64 j)) [7] [(0, 0), (1, 0), (2, 0), (3, 1), (4, 1), (5, 0), (6, 0), (7, 3)] (by kernel_rfl) (by kernel_rfl) (fun _ d _ _ _ h => by cases d <;> exact h) (by go_simp) ?_
        repeat (first
          | (refine wpC_pure (v := ?_) rfl (by rfl) ?_ ?_
             rotate_left 1
             · (intro w; go_simp; try with_reducible rfl)
             try simp only [Act.put, List.setIfInBounds_toArray, List.set_cons_zero, List.set_cons_succ, List.getElem_toArray, List.getElem_cons_succ, List.getElem_cons_zero])
          | (refine wpC_held (v := ?_) rfl (by rfl) ?_ ?_
             rotate_left 1
             · (rintro w ⟨hs1, hs2⟩; go_simp; try with_reducible rfl)
             try simp only [Act.put, List.setIfInBounds_toArray, List.set_cons_zero, List.set_cons_succ, List.getElem_toArray, List.getElem_cons_succ, List.getElem_cons_zero]))
        refine wpC_last rfl (by rfl) (fun K hK => ?_)
        go_simp
        refine hK _ _ ?_
        clear hK K
        refine wpC_nil ?_
        go_wp2_with fail
        refine ⟨⟨j + 1, vj.set j (.slice ao3 l'.length cp3), by omega, by go_num, ?_, ?_, ?_, ?_⟩, by simp [intOf]; omega⟩
        · rw [Hls.out]
          congr 1
          omega
        · exact Hfin.out.1.keep (Keeps.refl [] _).drew (by simp)
        · exact (hS.trans Hfin.out.2).trans (NetStep.same (Keeps.refl _ _).drew)
        · exact heap_set_other HN3.out (Ne.symm ntn)
      · have hjl' : j = to.length := by omega
        subst hjl'
        have hck := hR.cell_c (k := 1) (by omega)
        have hfk : wr.frozen? ⟨a, 1 + 1, none⟩ = false := by simp [World.frozen?, hR.ha]
        have hadd := Lib.hid (add_any a (1 + 1) _ (lostTo node to to.length : Nat) wr hck hfk)
        obtain ⟨hR2, hS2⟩ := hR.counted (k := 1) (wrap64 (c.getD 1 0 + (lostTo node to to.length : Nat)))
        have HR2 := Lib.hid hR2
        have ca := hR.cell_to
        clear hck hfk hR hR2 hlo hN
        go_wp2_with fail
        refine hadd.out.mono ?_
        rintro e w' ⟨rfl, rfl⟩
        go_wp2_with fail
        go_ret2
        exact ⟨rfl, vj, HR2.out, hS.trans hS2⟩

end Go.Proofs.Ytgkdlpbnhjfkdaa
