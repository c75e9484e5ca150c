/- Contract of the reference's Clear. Conditions: those of the theorem. -/
import Derived.Test.YtgkdlpbnhjfkdaaRefF
namespace Go.Proofs.Ytgkdlpbnhjfkdaa
open Go.RowKit

theorem clr_step (node : Int) (j : Nat) (l : List Pk) (i : Nat) (p : Pk) (h : l[i]? = some p) : clr node j (l.take (i + 1)) = if ((j : Int) == node || p.1 == node) = true then clr node j (l.take i) else clr node j (l.take i) ++ [p] := by
  obtain ⟨hi, he⟩ := List.getElem?_eq_some_iff.1 h
  unfold clr
  rw [List.take_succ_eq_append_getElem hi, List.filter_append, he]
  cases hb : ((j : Int) == node || p.1 == node)
  · simp only [List.filter_cons, List.filter_nil, hb, Bool.not_false, if_true, Bool.false_eq_true, if_false]
  · simp only [List.filter_cons, List.filter_nil, hb, Bool.not_true, if_true, Bool.false_eq_true, if_false, List.append_nil]

set_option maxRecDepth 100000 in
set_option maxHeartbeats 2000000 in
theorem ref_clear {a t vals to c} (node : Int) (w : World) (h : RefRep w a t vals to c) :
    Calls Try.prog 26 #[.pointer (some ⟨a, 0, none⟩), .int .i64 node] w fun e w' => e = .returned (.tuple #[.int .i64 (clearM to c node).2.2.1, .int .i64 (clearM to c node).2.2.2]) ∧
      RefPost w w' a t vals (clearM to c node).1 (clearM to c node).2.1 := by
  have Hn := Lib.hid (ref_none node w h)
  have hlen : ∀ l ∈ to, l.length ≤ 4096 := by
    intro l hl
    obtain ⟨i, hi, rfl⟩ := List.getElem_of_mem hl
    obtain ⟨v, _, _, h3⟩ := h.row (List.getElem?_eq_getElem hi)
    exact h3
  have hn17 := h.hn
  have H := Lib.hid h
  by_cases hn : noNode to.length node = true
  · have hs : clearM to c node = (to, c, 0, 180) := by simp only [clearM]; rw [if_pos hn]
    rw [hs]
    rw [hn] at Hn
    clear hs hn h hlen
    go_enter Try.func26, Try.ntmps26
    go_wp2_with fail
    refine Hn.out.mono ?_
    rintro e w1 ⟨rfl, rfl⟩
    clear Hn
    go_wp2_with fail
    go_ret2
    exact ⟨rfl, vals, H.out, NetStep.same (Keeps.refl _ _)⟩
  · have hs : clearM to c node = (clrTo node to to.length, c.set 1 (wrap64 (c.getD 1 0 + (lostTo node to to.length : Nat))), (lostTo node to to.length : Int), 0) := by simp only [clearM]; rw [if_neg hn]
    rw [hs]
    have hn' : noNode to.length node = false := by simpa using hn
    rw [hn'] at Hn
    have Hlen := Lib.hid hlen
    clear hs hn hn' h hlen
    go_enter Try.func26, Try.ntmps26
    go_wp2_with fail
    refine Hn.out.mono ?_
    rintro e w1 ⟨rfl, rfl⟩
    clear Hn
    go_wp2_with fail
    go_loopw [6, 7] (fun m j wr => ∃ (j' : Nat) (vj : List Value), j' ≤ to.length ∧ j = .int .i64 j' ∧ m = .int .i64 (lostTo node to j' : Nat) ∧ RefRep wr a t vj (clrTo node to j') c ∧ NetStep w wr a t vals vj) (fun _ j _ => to.length - (intOf j).toNat)
    case atStart => exact ⟨0, vals, Nat.zero_le _, rfl, rfl, by rw [clrTo_zero]; exact H.out, NetStep.same (Keeps.refl _ _)⟩
    case round =>
      obtain ⟨j, vj, hj, rfl, rfl, hR, hS⟩ := hrel
      have hlo := lostTo_le node to Hlen.out j
      have ca := hR.cell_to
      rw [clrTo_len] at ca
      by_cases hjl : j < to.length
      · have hl0 : to[j]? = some to[j] := List.getElem?_eq_getElem hjl
        have hlj := clrTo_get node to j hl0
        have hst := clrTo_step node to j hl0
        have hls : lostTo node to (j + 1) = lostTo node to j + ((to[j]).length - (clr node j to[j]).length) := by
          simp only [lostTo, List.getD_eq_getElem?_getD, hl0, Option.getD_some]
        have hle0 := Hlen.out to[j] (List.getElem_mem hjl)
        generalize to[j] = l at *
        obtain ⟨v, hv, ho, _⟩ := hR.row hlj
        obtain ⟨ao, cp, rfl⟩ := own_form ho
        have cv := hR.cell_val hv
        have Hst := Lib.hid hst
        have Hls := Lib.hid hls
        have HR := Lib.hid hR
        have Hl0 := Lib.hid hlj
        have Ho := Lib.hid ho
        have Hv := Lib.hid hv
        clear hst hls hR hlj ho hv hl0
        go_wp2_with fail
        obtain ⟨wj, rfl⟩ : ∃ wj : World, wj = wr := ⟨_, rfl⟩
        go_loopw [6, 8, 9] (fun m out i wr => ∃ (i' : Nat) (ao' : Option Addr) (cp' : Nat), i' ≤ l.length ∧ i = .int .i64 i' ∧ m = .int .i64 ((lostTo node to j + (i' - (clr node j (l.take i')).length) : Nat)) ∧ (clr node j (l.take i')).length ≤ i' ∧ out = .slice ao' (clr node j (l.take i')).length cp' ∧
          wr.ownsRow wj.heap.size 83 2 (.slice ao' (clr node j (l.take i')).length cp') (clr node j (l.take i')).length ((clr node j (l.take i')).flatMap encPk) ∧ Keeps [] wj wr) (fun _ _ i _ => l.length - (intOf i).toNat)
        case atStart => exact ⟨0, none, 0, Nat.zero_le _, rfl, rfl, Nat.le_refl _, rfl, World.ownsRow_nil _ _ _ _, Keeps.refl _ _⟩
        case round =>
          obtain ⟨i, ao', cp', hi, rfl, rfl, hci, rfl, hown, hk⟩ := hrel
          have ca' := hk.cell ca (by simp)
          have cv' := hk.cell cv (by simp)
          by_cases hil : i < l.length
          · have hp : l[i]? = some l[i] := List.getElem?_eq_getElem hil
            have hcs := clr_step node j l i l[i] hp
            obtain ⟨g, cp2, e0, _, _⟩ := Ho.out.form (by omega)
            cases e0
            have d0 : wj.cell? ⟨g, i * 2, none⟩ = some (.int .i64 l[i].1) := by rw [Ho.out.cellAt _ (by omega)]; exact flat_get0 hp
            have d1 : wj.cell? ⟨g, i * 2 + 1, none⟩ = some (.string l[i].2) := by rw [Ho.out.cellAt _ (by omega)]; exact flat_get1 hp
            have e0 := hk.cell d0 (by simp)
            have e1 := hk.cell d1 (by simp)
            clear hp d0 d1
            generalize l[i] = p at *
            obtain ⟨fr, s⟩ := p
            simp only at e0 e1 hcs
            cases hb1 : ((j : Int) == node) with
            | true =>
              simp only [hb1, Bool.true_or, if_true] at hcs
              have Hcs := Lib.hid hcs
              clear hcs
              go_wp2_with fail
              refine ⟨⟨i + 1, ao', cp', by omega, by go_num, ?_, ?_, ?_, ?_, hk⟩, by simp [intOf]; omega⟩
              · rw [Hcs.out]
                congr 1
                omega
              · rw [Hcs.out]; omega
              · rw [Hcs.out]
              · rw [Hcs.out]; exact hown
            | false =>
              cases hb2 : (fr == node) with
              | true =>
                simp only [hb1, hb2, Bool.or_true, if_true] at hcs
                have Hcs := Lib.hid hcs
                clear hcs
                go_wp2_with fail
                refine ⟨⟨i + 1, ao', cp', by omega, by go_num, ?_, ?_, ?_, ?_, hk⟩, by simp [intOf]; omega⟩
                · rw [Hcs.out]
                  congr 1
                  omega
                · rw [Hcs.out]; omega
                · rw [Hcs.out]
                · rw [Hcs.out]; exact hown
              | false =>
                simp only [hb1, hb2, Bool.or_false, Bool.false_eq_true, if_false] at hcs
                have Hcs := Lib.hid hcs
                clear hcs
                have hA : Keeps [] wj (wr.alloc (.cells #[.int .i64 fr, .string s] 83 (0, 0))) := hk.alloc _
                have hlm : (clr node j (l.take i)).length ≤ 4096 := by omega
                go_wp2_with (refine list_append_any rt81 (by rfl) _ _ (by rfl) wj.heap.size _ _ _ (by rfl) (hown.alloc _) _ 1 [.int .i64 fr, .string s] (by rfl) (SlC.of_block (cs := #[.int .i64 fr, .string s]) (t := 83) (fr := (0, 0)) (heap_alloc_new _ _) (by rfl)) (by simp [Value.oneCell']) (by omega) (by unfold maxLen; omega) hA.size ?_; intro ao3 cp3 w3 hown3 hgrow3 hat3 hnil3)
                have hk3 : Keeps [] wj w3 := hA.grown hgrow3 (fun k h => .inr ((hown.lt k h).1))
                refine ⟨⟨i + 1, ao3, cp3, by omega, by go_num, ?_, ?_, ?_, ?_, hk3⟩, by simp [intOf]; omega⟩
                · rw [Hcs.out, List.length_append, List.length_singleton]
                  congr 1
                  omega
                · rw [Hcs.out, List.length_append, List.length_singleton]; omega
                · rw [Hcs.out, List.length_append, List.length_singleton]
                · rw [Hcs.out, List.length_append, List.length_singleton, List.flatMap_append]
                  exact hown3
          · have hi' : i = l.length := by omega
            subst hi'
            have e1 : l.take l.length = l := List.take_length
            simp only [e1] at hown hci ⊢
            have hst := HR.out.rowed (w1 := wr) (v' := .slice ao' (clr node j l).length cp') (l' := clr node j l) Hv.out Hl0.out (by omega) (own_base hown (Nat.zero_le _)) (hk.mono (by simp)) (by
              cases hb3 : (Value.slice ao' (clr node j l).length cp').ownBlock with
              | none => exact .inr (.inl rfl)
              | some b => exact .inr (.inr ⟨b, rfl, (hown.lt b hb3).1⟩))
            rw [← Hst.out] at hst
            have zt : wr.frozen? ⟨t, j, none⟩ = false := by simp [World.frozen?, hk.heap HR.out.ht (by simp)]
            have Hst2 := Lib.hid hst
            clear hst hown e1
            go_wp2_with fail
            refine ⟨⟨j + 1, _, by omega, by go_num, ?_, Hst2.out.1, hS.trans Hst2.out.2⟩, by simp [intOf]; omega⟩
            rw [Hls.out]
      · have hjl' : j = to.length := by omega
        subst hjl'
        have hcell := hR.cell_c (k := 1) (by omega)
        have hfz : wr.frozen? ⟨a, 1 + 1, none⟩ = false := by simp [World.frozen?, hR.ha]
        have hct := hR.counted (k := 1) (wrap64 (c.getD 1 0 + (lostTo node to to.length : Nat)))
        have hfin : ∀ w' : World, Keeps [] (wr.setCell ⟨a, 1 + 1, none⟩ (.int .i64 (wrap64 (c.getD 1 0 + (lostTo node to to.length : Nat))))) w' → RefPost w w' a t vals (clrTo node to to.length) (c.set 1 (wrap64 (c.getD 1 0 + (lostTo node to to.length : Nat)))) := fun w' hk' =>
          ⟨_, hct.1.keep hk' (by simp), (hS.trans hct.2).trans (NetStep.same hk')⟩
        have Hfin := Lib.hid hfin
        clear hfin hct hR
        go_wp2_with fail
        refine wp_region_chain (fun w' => w'.cell? ⟨a, 1 + 1, none⟩ = some (.int .i64 (c.getD 1 0))) [10] [(0, 0), (1, 0), (2, 0), (3, 0), (4, 1), (5, 0), (6, 0), (7, 0), (8, 0), (9, 0), (10, 3)] (by kernel_rfl) (by kernel_rfl) (fun _ d _ _ _ h => by cases d <;> exact h) (by go_simp) ?_
        repeat (first
          | (refine wpC_pure (v := ?_) rfl (by rfl) ?_ ?_
             rotate_left 1
             · (intro w; go_simp; try with_reducible rfl)
             try simp only [Act.put, List.setIfInBounds_toArray, List.set_cons_zero, List.set_cons_succ, List.getElem_toArray, List.getElem_cons_succ, List.getElem_cons_zero])
          | (refine wpC_held (v := ?_) rfl (by rfl) ?_ ?_
             rotate_left 1
             · (rintro w hs1; go_simp; try with_reducible rfl)
             try simp only [Act.put, List.setIfInBounds_toArray, List.set_cons_zero, List.set_cons_succ, List.getElem_toArray, List.getElem_cons_succ, List.getElem_cons_zero]))
        refine wpC_last rfl (by rfl) (fun K hK => ?_)
        go_simp
        refine hK _ _ ?_
        clear hK K
        refine wpC_nil ?_
        go_wp2_with fail
        go_ret2
        exact ⟨rfl, Hfin.out _ (by rw [show IntKind.i64.wrap (c[1]?.getD 0 + (lostTo node to to.length : Nat)) = wrap64 (c.getD 1 0 + (lostTo node to to.length : Nat)) from wrap_eq _]; repeat (first | exact Keeps.refl [] _ | refine Keeps.drew ?_))⟩

end Go.Proofs.Ytgkdlpbnhjfkdaa
