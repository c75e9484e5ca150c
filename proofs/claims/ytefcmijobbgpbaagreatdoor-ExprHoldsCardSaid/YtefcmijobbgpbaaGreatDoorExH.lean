/- grow of a not, and of two sides. Conditions: those of each theorem. -/
import Derived.Test.YtefcmijobbgpbaaGreatDoorExG
namespace Go.Proofs.YtefcmijobbgpbaaGreatDoor
open Go.RowKit

def negM (p : PartR) : Option (Ex × List PartR) → Option (Ex × List PartR)
  | none => none
  | some (a, x1) => if a.kind = 3 then some (.neg p a, x1) else none

theorem growM_neg {d : Nat} {p : PartR} {l : List PartR} (hm : isM p = true) (hk : p.kind = 13) : growM (d + 1) (p :: l) = negM p (growM d l) := by
  rw [growM, if_neg (by rw [hm]; simp), if_neg (by omega), if_pos hk]
  cases growM d l with
  | none => rfl
  | some q => rfl

theorem GrowOut.none_form {O B : Nat} {u : World} {e : Ending} {w' : World} (h : GrowOut O u B none e w') : e = .returned (.tuple #[.pointer none, .slice none 0 0]) := h
theorem GrowOut.some_form {O B : Nat} {u : World} {t : Ex} {r : List PartR} {e : Ending} {w' : World} (h : GrowOut O u B (some (t, r)) e w') : ∃ a v', e = .returned (.tuple #[.pointer (some ⟨a, 0, none⟩), v']) ∧ TreeAt w' O B t a ∧ ArgPart u v' r := h

theorem cell_set_far {w : World} {b o b' o' : Nat} {v x : Value} (h : w.cell? ⟨b, o, none⟩ = some v) (hne : b ≠ b') : (w.setCell ⟨b', o', none⟩ x).cell? ⟨b, o, none⟩ = some v := by
  rw [World.cell?_setCell_other]
  · exact h
  · intro e
    cases e
    exact hne rfl

theorem negM_bad {p : PartR} {t : Ex} {r : List PartR} (h : t.kind ≠ 3) : negM p (some (t, r)) = none := by simp only [negM, if_neg h]
theorem negM_good {p : PartR} {t : Ex} {r : List PartR} (h : t.kind = 3) : negM p (some (t, r)) = some (.neg p t, r) := by simp only [negM, if_pos h]

theorem TreeAt.ge {w : World} {O B : Nat} {t : Ex} {a : Nat} (h : TreeAt w O B t a) : B ≤ a := by
  cases t with
  | leaf p => exact h.1
  | neg p x => exact h.1
  | bin p x y => exact h.1

theorem rtTree : RowTy Tryz.prog 67 64 1 8 := ⟨by kernel_rfl, by kernel_rfl, by decide⟩

set_option maxHeartbeats 8000000 in
set_option maxRecDepth 100000 in
/-- A not. -/
theorem grow_neg (O d n : Nat) (p : PartR) (l : List PartR) (hn : l.length = n + 1) (IH : GrowIH O d l) (bk o cap : Nat) (u w : World) (hu : Keeps [] u w) (hG : GlobX w) (hO : OpsAt w O) (hok : ∀ x ∈ l, x.ok) (hp : p.ok) (hm : isM p = true) (hd : d < 64) (hcap : n + 2 ≤ cap) (hs : PartSl u bk o (p :: l)) (hcm : cap ≤ 9223372036854775807)
    (h0 : w.cell? ⟨bk, o, none⟩ = some (.int .i64 p.kind)) (h1 : w.cell? ⟨bk, o + 1, none⟩ = some (.int .i64 p.n)) (h2 : w.cell? ⟨bk, o + 2, none⟩ = some (.string p.s)) (h3 : w.cell? ⟨bk, o + 3, none⟩ = some (.string p.stage)) (h4 : w.cell? ⟨bk, o + 4, none⟩ = some (.int .i64 p.field)) (hop : p.kind = 13) :
    Calls Tryz.prog 40 #[.slice (some ⟨bk, o, none⟩) (n + 1 + 1) cap, .slice (some ⟨O, 0, none⟩) 9 9, .int .i64 ((d : Int) + 1)] w fun e w' => GrowOut O u w.heap.size (growM (d + 1) (p :: l)) e w' ∧ Keeps [] w w' := by
  have hk0 := Keeps.refl [] w
  have HI := Lib.hid (is_any p hp w hG)
  rw [hm] at HI
  have HIH := Lib.hid IH
  have HG := Lib.hid hG
  have HO := Lib.hid hO
  have HOK := Lib.hid hok
  have HS := Lib.hid hs
  have HM := Lib.hid (growM_neg (d := d) (l := l) hm hop)
  have HP := Lib.hid hop
  have HN := Lib.hid hn
  have d2 : (((d : Int) + 1) == 0) = false := by rw [beq_eq_false_iff_ne]; omega
  have e1 : (p.kind == 1) = false := by rw [beq_eq_false_iff_ne]; omega
  have e2 : (p.kind == 2) = false := by rw [beq_eq_false_iff_ne]; omega
  have e3 : (p.kind == 3) = false := by rw [beq_eq_false_iff_ne]; omega
  have e4 : (p.kind == 13) = true := by rw [hop]; rfl
  have hc1 : ¬ cap = 1 := by omega
  have d1 : (((n : Int) + 1 + 1) == 0) = false := by rw [beq_eq_false_iff_ne]; omega
  clear hm hG hp hop hO hok hs IH hn
  go_enter Tryz.func40, Tryz.ntmps40
  go_wp2_with (go_at_call 57; refine HI.out.mono ?_; rintro e w2 ⟨rfl, hk2⟩; have g0 := hk2.cell h0 (by simp); have g1 := hk2.cell h1 (by simp); have g2 := hk2.cell h2 (by simp); have g3 := hk2.cell h3 (by simp); have g4 := hk2.cell h4 (by simp); have hbl := World.block_lt_of_cell? w2 _ g0)
  obtain ⟨a, ha⟩ : ∃ a, a = w2.heap.size := ⟨_, rfl⟩
  obtain ⟨T, hT⟩ : ∃ T, T = w2.heap.size + 1 := ⟨_, rfl⟩
  have hka := (hk2.alloc (.cells (treeRow p (.pointer none) (.slice none 0 0) 0) 69 (0, 0))).alloc (.cells #[.pointer (some ⟨w2.heap.size, 0, none⟩)] 64 (0, 0))
  have hbA := alloc_old (heap_alloc_new w2 (.cells (treeRow p (.pointer none) (.slice none 0 0) 0) 69 (0, 0))) (.cells #[.pointer (some ⟨w2.heap.size, 0, none⟩)] 64 (0, 0))
  have hbT := heap_alloc2_new w2 (.cells (treeRow p (.pointer none) (.slice none 0 0) 0) 69 (0, 0)) (.cells #[.pointer (some ⟨w2.heap.size, 0, none⟩)] 64 (0, 0))
  have haw : w.heap.size ≤ a := by rw [ha]; exact hk2.size
  obtain ⟨w3, hw3⟩ : ∃ w3, w3 = ((w2.alloc (.cells (treeRow p (.pointer none) (.slice none 0 0) 0) 69 (0, 0))).alloc (.cells #[.pointer (some ⟨w2.heap.size, 0, none⟩)] 64 (0, 0))) := ⟨_, rfl⟩
  have hw3' := hw3
  unfold treeRow at hw3'
  have hT3 : T < w3.heap.size := by rw [hw3, hT]; simp
  have hk3 : Keeps [] w w3 := by rw [hw3]; exact hka
  rw [← hw3] at hbA hbT
  rw [← hw3', ← hT, ← ha]
  rw [← hT, ← ha] at hbT
  rw [← ha] at hbA
  have haT : a < T := by omega
  clear hw3 hw3' hka hT ha
  have HA0 := Lib.hid (And.intro hbA hbT)
  clear hbA hbT
  go_loopw [0, 72] (fun x i wr => (x = .slice (some ⟨bk, o + 5, none⟩) (n + 1) (cap - 1) ∧ i = .int .i64 0 ∧ w3 = wr) ∨
      (∃ t1 r1 b ao c wq, Hid (growM d l = some (t1, r1)) ∧ i = .int .i64 1 ∧ Hid (ArgPart u x r1 ∧ TreeAt wq O w3.heap.size t1 b ∧ Keeps [a] wq wr ∧ w3.heap.size ≤ wq.heap.size ∧ wr.heap[a]? = some (.cells (treeRow p (.pointer none) (.slice ao 1 c) 0) 69 (0, 0)) ∧ wr.heap[T]? = some (.cells #[.pointer (some ⟨a, 0, none⟩)] 64 (0, 0)) ∧
        wr.ownsRow wq.heap.size 64 1 (.slice ao 1 c) 1 [.pointer (some ⟨b, 0, none⟩)]) ∧ Keeps [] w wr)) (fun _ i _ => 1 - (intOf i).toNat)
  case atStart => exact .inl ⟨rfl, rfl, rfl⟩
  case round =>
    rcases hrel with ⟨rfl, rfl, rfl⟩ | ⟨t1, r1, b, ao, c, wq, hg, rfl, hst, hk⟩
    · obtain ⟨hbA, hbT⟩ := HA0.out
      have hA3 : ArgPart u (.slice (some ⟨bk, o + 5, none⟩) (n + 1) (cap - 1)) l := by
        have h := RestOf.arg (w := u) (p := p) (l := l) (v := .slice (some ⟨bk, o + 5, none⟩) (n + 1) (cap - 1)) ⟨o + 5, by rw [HN.out], fun _ => rfl⟩ HS.out (by simp [HN.out]; omega) hcm
        exact h
      have HC := Lib.hid (HIH.out u _ w3 ⟨hu.then hk3, HG.out.keep hk3, HOK.out, HO.out.keep hk3 (by simp), hA3⟩)
      cases hg : growM d l with
      | none =>
        rw [hg] at HC HM
        go_wp2_with (go_at_call 40; refine HC.out.mono ?_; rintro e wq ⟨h, hkq⟩; have h := h.none_form; subst h)
        go_returns
        exact ⟨by rw [HM.out]; rfl, hk3.then hkq⟩
      | some q =>
        obtain ⟨t1, r1⟩ := q
        rw [hg] at HC HM
        have HGr := Lib.hid hg
        clear hg hA3
        go_wp2_with (go_at_call 40; refine HC.out.mono ?_; rintro e wq ⟨h, hkq⟩; obtain ⟨b, v', h, hTr, hAr⟩ := h.some_form; subst h)
        have hbA' := hkq.heap hbA (by simp)
        have hbT' := hkq.heap hbT (by simp)
        have hkw := hk3.then hkq
        have cT : wq.cell? ⟨T, 0, none⟩ = some (.pointer (some ⟨a, 0, none⟩)) := by simp [World.cell?, hbT']
        have ca6 : wq.cell? ⟨a, 6, none⟩ = some (.slice none 0 0) := (node_cells hbA').2.2.2.2.2.2.1
        have za6 : wq.frozen? ⟨a, 6, none⟩ = false := by simp [World.frozen?, hbA']
        have hTq : T < wq.heap.size := Nat.lt_of_lt_of_le hT3 hkq.size
        have hown : Hid (wq.ownsRow wq.heap.size 64 1 (.slice none 0 0) 0 []) := Lib.hid ⟨rfl, .inl ⟨rfl, rfl⟩⟩
        have HTA := Lib.hid (And.intro hTr hAr)
        clear HC hTr hAr
        refine wp_region_chain (fun W' => W'.cell? ⟨T, 0, none⟩ = some (.pointer (some ⟨a, 0, none⟩)) ∧ W'.cell? ⟨a, 6, none⟩ = some (.slice none 0 0)) [10] [(0, 1), (1, 1), (2, 0), (3, 0), (4, 1), (5, 0), (6, 2), (7, 2), (8, 0), (9, 0), (10, 3)] (by kernel_rfl) (by kernel_rfl) (fun _ d _ _ _ h => by cases d <;> exact h) ⟨cT, ca6⟩ ?_
        repeat (first
          | (refine wpC_pure (v := ?_) rfl (by rfl) ?_ ?_
             rotate_left 1
             · (intro w; go_simp; try with_reducible rfl)
             try simp only [Act.put, List.setIfInBounds_toArray, List.set_cons_zero, List.set_cons_succ, List.getElem_toArray, List.getElem_cons_succ, List.getElem_cons_zero])
          | (refine wpC_held (v := ?_) rfl (by rfl) ?_ ?_
             rotate_left 1
             · (rintro w ⟨x0, x1⟩; go_simp; try with_reducible rfl)
             try simp only [Act.put, List.setIfInBounds_toArray, List.set_cons_zero, List.set_cons_succ, List.getElem_toArray, List.getElem_cons_succ, List.getElem_cons_zero]))
        refine wpC_step rfl (by rfl) (fun K hK => ?_)
        go_simp
        refine hK _ _ ⟨(Keeps.alloc (Keeps.refl [] _) _).cell (show wq.drew.cell? _ = _ from cT) (by simp), (Keeps.alloc (Keeps.refl [] _) _).cell (show wq.drew.cell? _ = _ from ca6) (by simp)⟩ ?_
        clear hK K
        try simp only [Act.put, List.setIfInBounds_toArray, List.set_cons_zero, List.set_cons_succ, List.getElem_toArray, List.getElem_cons_succ, List.getElem_cons_zero]
        refine wpC_step rfl (by rfl) (fun K hK => ?_)
        refine wp_append_any rtTree _ _ (by rfl) wq.heap.size (.slice none 0 0) 0 [] (by rfl) (hown.out.drew.alloc _) _ 1 [.pointer (some ⟨b, 0, none⟩)] (by rfl) (SlC.of_block (cs := #[.pointer (some ⟨b, 0, none⟩)]) (t := 64) (fr := (0, 0)) (heap_alloc_new _ _) (by rfl)) (by simp [Value.oneCell']) (by omega) (by unfold maxLen; omega) (by simp) ?_
        intro ao1 cp1 w1 hown1 hgrow hat hnil
        have hno : ∀ x, x < wq.heap.size → ¬ some x = Value.ownBlock (.slice none 0 0) := fun x hx e => by have := own_ge hown.out e.symm; omega
        have hbA1 : w1.heap[a]? = some (.cells (treeRow p (.pointer none) (.slice none 0 0) 0) 69 (0, 0)) := by
          rw [hgrow.block a (by simp; omega) (hno a (by omega))]
          exact alloc_old (w := wq.drew) hbA' _
        have hbT1 : w1.heap[T]? = some (.cells #[.pointer (some ⟨a, 0, none⟩)] 64 (0, 0)) := by
          rw [hgrow.block T (by simp; omega) (hno T (by omega))]
          exact alloc_old (w := wq.drew) hbT' _
        have cT1 : w1.cell? ⟨T, 0, none⟩ = some (.pointer (some ⟨a, 0, none⟩)) := by simp [World.cell?, hbT1]
        have ca61 : w1.cell? ⟨a, 6, none⟩ = some (.slice none 0 0) := (node_cells hbA1).2.2.2.2.2.2.1
        have za61 : w1.frozen? ⟨a, 6, none⟩ = false := by simp [World.frozen?, hbA1]
        have hkw1 : Keeps [] w w1 := (hkw.drew.alloc _).grown hgrow (fun k h => .inr (by have := own_ge hown.out h; omega))
        have hq1 : Keeps [a] wq w1 := ((Keeps.refl [a] wq).drew.alloc _).grown hgrow (fun k h => .inr (own_ge hown.out h))
        refine hK _ _ ⟨cT1, ca61⟩ ?_
        clear hK K
        try simp only [Act.put, List.setIfInBounds_toArray, List.set_cons_zero, List.set_cons_succ, List.getElem_toArray, List.getElem_cons_succ, List.getElem_cons_zero]
        repeat (first
          | (refine wpC_pure (v := ?_) rfl (by rfl) ?_ ?_
             rotate_left 1
             · (intro w; go_simp; try with_reducible rfl)
             try simp only [Act.put, List.setIfInBounds_toArray, List.set_cons_zero, List.set_cons_succ, List.getElem_toArray, List.getElem_cons_succ, List.getElem_cons_zero])
          | (refine wpC_held (v := ?_) rfl (by rfl) ?_ ?_
             rotate_left 1
             · (rintro w ⟨x0, x1⟩; go_simp; try with_reducible rfl)
             try simp only [Act.put, List.setIfInBounds_toArray, List.set_cons_zero, List.set_cons_succ, List.getElem_toArray, List.getElem_cons_succ, List.getElem_cons_zero]))
        refine wpC_last rfl (by rfl) (fun K hK => ?_)
        go_simp
        refine hK _ _ ?_
        clear hK K
        try simp only [Act.put, List.setIfInBounds_toArray, List.set_cons_zero, List.set_cons_succ, List.getElem_toArray, List.getElem_cons_succ, List.getElem_cons_zero]
        refine wpC_nil ?_
        have hbA2 : (w1.setCell ⟨a, 6, none⟩ (.slice ao1 1 cp1)).heap[a]? = some (.cells (treeRow p (.pointer none) (.slice ao1 1 cp1) 0) 69 (0, 0)) := heap_set_self hbA1
        have hbT2 := heap_set_other (a := ⟨a, 6, none⟩) (v := .slice ao1 1 cp1) hbT1 (by simp; omega)
        have hown2 := own_set_other hown1 (a := ⟨a, 6, none⟩) (.slice ao1 1 cp1) (fun e => by have := own_ge hown1 e; simp at this; omega)
        have hkw2 := hkw1.setCell (p := ⟨a, 6, none⟩) (.inr haw) (.slice ao1 1 cp1)
        have hq2 := hq1.setCell (p := ⟨a, 6, none⟩) (.inl (by simp)) (.slice ao1 1 cp1)

        have HF := Lib.hid (And.intro HTA.out.2 (And.intro HTA.out.1 (And.intro hq2 (And.intro hkq.size (And.intro hbA2 (And.intro hbT2 hown2))))))
        clear hown1 hgrow hbA1 hbT1 hbA2 hbT2 hown2 hq1 hq2 hnil hat
        go_wp2_with fail
        exact ⟨.inr ⟨t1, r1, b, ao1, cp1, wq, Lib.hid rfl, rfl, HF, hkw2⟩, by simp only [intOf]; omega⟩
    · obtain ⟨hxa, hTr, hq, hqs, hbA, hbT, hown⟩ := hst.out
      have hgM := HM.out
      rw [hg.out] at hgM
      have HGM := Lib.hid hgM
      rcases hown.2 with ⟨he, h0⟩ | ⟨lb, cp, cur, he, hlb, hlg, hnc, hcm1, _, _⟩
      · cases he
      cases he
      have hol := hown.cells rfl 0 _ rfl
      have hTr1 := hTr.keepS hq (by simp; omega)
      have hBb : w3.heap.size ≤ b := TreeAt.ge hTr
      obtain ⟨op, sl, hnode⟩ := hTr1.node
      obtain ⟨_, _, _, _, _, _, _, hb7⟩ := node_cells hnode
      obtain ⟨_, _, _, _, _, _, ca6, ca7⟩ := node_cells hbA
      have cT : wr.cell? ⟨T, 0, none⟩ = some (.pointer (some ⟨a, 0, none⟩)) := by simp [World.cell?, hbT]
      have za7 : wr.frozen? ⟨a, 7, none⟩ = false := by simp [World.frozen?, hbA]
      have hla : lb ≠ a := by omega
      have hba : b ≠ a := by omega
      have hTa : T ≠ a := by omega
      have hcm2 : c ≤ 9223372036854775807 := by unfold maxLen at hcm1; exact hcm1
      simp only [addr_add, Nat.zero_add] at hol
      have hA2 : (wr.setCell ⟨a, 7, none⟩ (.int .i64 3)).heap[a]? = some (.cells (treeRow p (.pointer none) (.slice (some ⟨lb, 0, none⟩) 1 c) 3) 69 (0, 0)) := heap_set_self hbA
      have hq2 := hq.setCell (p := ⟨a, 7, none⟩) (.inl (by simp)) (.int .i64 3)
      have hkw2 := hk.setCell (p := ⟨a, 7, none⟩) (.inr haw) (.int .i64 3)
      have hfin : TreeAt (wr.setCell ⟨a, 7, none⟩ (.int .i64 3)) O w.heap.size (.neg p t1) a :=
        ⟨haw, HP.out, lb, c, b, hA2, by have := hk3.size; omega, hnc, hcm2, cell_set_far hol hla, (hTr.keepS hq2 (by simp; omega)).mono hk3.size⟩
      have HFIN := Lib.hid hfin
      have HXA := Lib.hid hxa
      obtain ⟨k1, hk1⟩ : ∃ k1, t1.kind = k1 := ⟨_, rfl⟩
      rw [hk1] at hb7
      have HK1 := Lib.hid hk1
      clear hst hg hgM hown hlg hTr hTr1 hnode hbA hbT hA2 hq hq2 hfin hxa hk1 hlb hqs hcm1
      by_cases hk3' : k1 = 3
      · have d3 : (k1 != 3) = false := by rw [hk3']; rfl
        have HR := Lib.hid (HGM.out.trans (negM_good (HK1.out.trans hk3')))
        clear hk3'
        go_wp2_with fail
        go_returns
        exact ⟨by rw [HR.out]; exact ⟨a, _, rfl, HFIN.out, HXA.out⟩, hkw2⟩
      · have d3 : (k1 != 3) = true := by rw [bne_iff_ne]; exact hk3'
        have HR := Lib.hid (HGM.out.trans (negM_bad (fun e => hk3' (HK1.out.symm.trans e))))
        clear hk3'
        go_wp2_with fail
        go_returns
        exact ⟨by rw [HR.out]; rfl, hkw2⟩

end Go.Proofs.YtefcmijobbgpbaaGreatDoor
