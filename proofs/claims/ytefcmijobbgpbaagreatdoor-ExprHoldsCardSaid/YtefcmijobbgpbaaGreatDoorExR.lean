/- The tokens of operations. Conditions: those of each theorem. -/
import Derived.Test.YtefcmijobbgpbaaGreatDoorExQ
namespace Go.Proofs.YtefcmijobbgpbaaGreatDoor
open Go.RowKit

set_option maxHeartbeats 8000000 in
set_option maxRecDepth 100000 in
/-- Two sides. -/
theorem tokens_bin (O B a : Nat) (p : PartR) (x y : Ex) (outer : Bool) (w : World) (hG : GlobX w) (hO : OpsAt w O) (hlen : (x.toks false).length + (y.toks false).length ≤ 600) (IHx : TokIH O x) (IHy : TokIH O y) (hT : TreeAt w O B (.bin p x y) a) :
    Calls Tryz.prog 28 #[.pointer (some ⟨a, 0, none⟩), .bool outer] w fun e w' => TokOut w.heap.size ((Ex.bin p x y).toks outer) e w' ∧ Keeps [] w w' := by
  have hk0 := Keeps.refl [] w
  obtain ⟨_, h4, lb, c, b, d, hn, _, hc2, hcm, hl0, hl1, hTx, hTy⟩ := hT
  obtain ⟨c0, c1, c2, c3, c4, c5, c6, c7⟩ := node_cells hn
  have HW := fun s w => Lib.hid (tokWord_any s w)
  have HSn := fun s w => Lib.hid (tokSign_any s w)
  have HG := Lib.hid hG
  have HO1 := Lib.hid hO
  have HIX := Lib.hid IHx
  have HIY := Lib.hid IHy
  have HTX := Lib.hid hTx
  have HTY := Lib.hid hTy
  obtain ⟨n, hn1⟩ : ∃ n, (x.toks false).length = n := ⟨_, rfl⟩
  obtain ⟨n2, hn2⟩ : ∃ n2, (y.toks false).length = n2 := ⟨_, rfl⟩
  have HN := Lib.hid hn1
  have HN2 := Lib.hid hn2
  rw [hn1, hn2] at hlen
  obtain ⟨m, hm⟩ : ∃ m, m = opN p.kind := ⟨_, rfl⟩
  have hm9 : m < 9 := by rw [hm]; unfold opN; omega
  obtain ⟨o0, o1, o2, o3, o4, o5, o6⟩ := ops_cells hO m hm9
  have e1 : (p.kind == 1) = false := by rw [beq_eq_false_iff_ne]; omega
  have e2 : (p.kind == 2) = false := by rw [beq_eq_false_iff_ne]; omega
  have e3 : (p.kind == 3) = false := by rw [beq_eq_false_iff_ne]; omega
  rw [← hm] at c5
  obtain ⟨sg, hsg⟩ : ∃ sg, (opsL.getD m ⟨⟨#[]⟩, 0, 0, 0, 0, 0⟩).sign = sg := ⟨_, rfl⟩
  obtain ⟨is_, his⟩ : ∃ is_, (opsL.getD m ⟨⟨#[]⟩, 0, 0, 0, 0, 0⟩).is_ = is_ := ⟨_, rfl⟩
  obtain ⟨of_, hof⟩ : ∃ of_, (opsL.getD m ⟨⟨#[]⟩, 0, 0, 0, 0, 0⟩).of_ = of_ := ⟨_, rfl⟩
  have HMid : Hid (midT p.kind = if is_ = of_ ∧ is_ = 3 then wordT sg else signT sg) := Lib.hid (by unfold midT opAt; rw [← hm, his, hof, hsg])
  rw [hsg] at o0
  rw [his] at o5
  rw [hof] at o3
  clear hn hTx hTy hG hO hn1 hn2 hm hsg his hof o1 o2 o4 o6 h4 c1 c2 c3 c4 c7
  go_enter Tryz.func28, Tryz.ntmps28
  go_wp2_with (go_at_call 46; refine (HSn _ _).out.mono ?_; rintro e wa ⟨rfl, hka⟩; have o0 := hka.cell o0 (by simp); have o3 := hka.cell o3 (by simp); have o5 := hka.cell o5 (by simp); have c5 := hka.cell c5 (by simp))
  have hk1 := hka.alloc (.cells #[.int .i64 4, .string sg, .int .i64 0, .int .i64 0] 91 (0, 0))
  have hT8 := heap_alloc_new wa (.cells #[.int .i64 4, .string sg, .int .i64 0, .int .i64 0] 91 (0, 0))
  have hr1 := (Keeps.refl [] wa).alloc (.cells #[.int .i64 4, .string sg, .int .i64 0, .int .i64 0] 91 (0, 0))
  have o0 := hr1.cell o0 (by simp)
  have o3 := hr1.cell o3 (by simp)
  have o5 := hr1.cell o5 (by simp)
  have c5 := hr1.cell c5 (by simp)
  obtain ⟨T8, hT⟩ : ∃ T8, T8 = wa.heap.size := ⟨_, rfl⟩
  have hTw : w.heap.size ≤ T8 := by rw [hT]; exact hka.size
  have hTk : T8 < (wa.alloc (.cells #[.int .i64 4, .string sg, .int .i64 0, .int .i64 0] 91 (0, 0))).heap.size := by rw [hT]; simp
  rw [← hT] at hT8 ⊢
  obtain ⟨w1, hw1⟩ : ∃ w1, w1 = wa.alloc (.cells #[.int .i64 4, .string sg, .int .i64 0, .int .i64 0] 91 (0, 0)) := ⟨_, rfl⟩
  rw [← hw1] at hk1 hT8 hTk o0 o3 o5 c5 ⊢
  clear hw1 hr1 hT hka
  by_cases hio : is_ = of_
  · subst hio
    by_cases hi3 : is_ = 3
    · subst hi3
      rw [if_pos (And.intro rfl rfl)] at HMid
      repeat (go_quiet (fail); try go_wp2_with (go_at_call 47; refine (HW _ _).out.mono ?_; rintro e wb ⟨rfl, hkb⟩; have hk2 := hk1.then (Keeps.trans (Keeps.drewN (Keeps.refl [] w1) _) hkb (by simp)); have hT9 := hkb.heap (show _ = some (Obj.cells #[.int .i64 4, .string sg, .int .i64 0, .int .i64 0] 91 (0, 0)) from hT8) (by simp); have q8 := tok_block hT9; obtain ⟨q0, q1, q2, q3, y0, y1, y2, y3⟩ := q8))
      obtain ⟨wk, hwk⟩ : ∃ wk, wk = (((wb.setCell ⟨T8, 0, none⟩ (.int .i64 1)).setCell ⟨T8, 1, none⟩ (.string sg)).setCell ⟨T8, 2, none⟩ (.int .i64 0)).setCell ⟨T8, 3, none⟩ (.int .i64 0) := ⟨_, rfl⟩
      have hT8k : wk.heap[T8]? = some (Obj.cells #[.int .i64 1, .string sg, .int .i64 0, .int .i64 0] 91 (0, 0)) := by rw [hwk]; exact set4_block hT9 _ _ _ _
      have hkk : Keeps [] w wk := by rw [hwk]; exact (((hk2.setCell (.inr hTw) _).setCell (.inr hTw) _).setCell (.inr hTw) _).setCell (.inr hTw) _
      rw [← hwk]
      clear hwk hT9 hk2 hT8 hk1 o0 o3 o5 c5 q0 q1 q2 q3 y0 y1 y2 y3 hkb
      have t8 := tok_block hT8k
      obtain ⟨z0, z1, z2, z3, _, _, _, _⟩ := t8
      have d6 := hkk.cell c6 (by simp)
      have dl0 := hkk.cell hl0 (by simp)
      have dl1 := hkk.cell hl1 (by simp)
      have hdk := (Keeps.refl [] wk).drew
      refine wp_region_tree (fun W' => W'.cell? ⟨a, 6, none⟩ = some (.slice (some ⟨lb, 0, none⟩) 2 c) ∧ W'.cell? ⟨lb, 0, none⟩ = some (.pointer (some ⟨b, 0, none⟩)) ∧ W'.cell? ⟨lb, 1, none⟩ = some (.pointer (some ⟨d, 0, none⟩)) ∧ W'.cell? ⟨T8, 0, none⟩ = some (.int .i64 1) ∧ W'.cell? ⟨T8, 1, none⟩ = some (.string sg) ∧ W'.cell? ⟨T8, 2, none⟩ = some (.int .i64 0) ∧ W'.cell? ⟨T8, 3, none⟩ = some (.int .i64 0)) [16] (.op 0 0 (.op 1 0 (.op 2 0 (.op 3 1 (.op 4 0 (.op 5 1 (.op 7 1 (.op 10 0 (.op 11 0 (.op 12 0 (.op 13 1 (.op 14 0 (.op 15 1 (.alt 6 (.op 8 2 (.op 9 2 (.op 16 3 (.op 17 3 (.op 18 0 (.done)))))) 8 (.op 6 2 (.op 9 2 (.op 16 3 (.op 17 3 (.op 18 0 (.done)))))))))))))))))))) (by kernel_rfl) (by kernel_rfl) (fun _ d _ _ _ h => by cases d <;> exact h) ⟨hdk.cell d6 (by simp), hdk.cell dl0 (by simp), hdk.cell dl1 (by simp), hdk.cell z0 (by simp), hdk.cell z1 (by simp), hdk.cell z2 (by simp), hdk.cell z3 (by simp)⟩ ?_
      repeat (first
        | (refine wpT_pure (v := ?_) rfl (by rfl) ?_ ?_
           rotate_left 1
           · (intro w; go_simp; try with_reducible rfl)
           try simp only [Act.put, List.setIfInBounds_toArray, List.set_cons_zero, List.set_cons_succ, List.getElem_toArray, List.getElem_cons_succ, List.getElem_cons_zero])
        | (refine wpT_held (v := ?_) rfl (by rfl) ?_ ?_
           rotate_left 1
           · (rintro w ⟨hs0, hs1, hs2, hs3, hs4, hs5, hs6⟩; go_simp; try with_reducible rfl)
           try simp only [Act.put, List.setIfInBounds_toArray, List.set_cons_zero, List.set_cons_succ, List.getElem_toArray, List.getElem_cons_succ, List.getElem_cons_zero]))
      refine wpT_alt rfl rfl (by rfl) (by rfl) (fun K hK => ?_) (fun K hK => ?_)
      · skip
        go_simp
        have hkx := hkk.then hdk
        refine (HIX.out _ b _ (HG.out.keep hkx) (HO1.out.keep hkx (by simp)) (HTX.out.keep hkx)).mono ?_
        rintro e w3 ⟨⟨ao, q, cp, rfl, hq, hown⟩, hk3⟩
        obtain rfl : n = q := HN.out.symm.trans hq
        have hk3 : Keeps [] wk w3 := (hdk).then hk3
        refine hK _ _ ⟨(hk3).cell d6 (by simp), (hk3).cell dl0 (by simp), (hk3).cell dl1 (by simp), (hk3).cell z0 (by simp), (hk3).cell z1 (by simp), (hk3).cell z2 (by simp), (hk3).cell z3 (by simp)⟩ ?_
        clear hK K
        try simp only [Act.put, List.setIfInBounds_toArray, List.set_cons_zero, List.set_cons_succ, List.getElem_toArray, List.getElem_cons_succ, List.getElem_cons_zero]
        refine wpT_step rfl (by rfl) (fun K hK => ?_)
        go_simp
        have hk4 := hk3.alloc (.cells #[.int .i64 1, .string sg, .int .i64 0, .int .i64 0] 91 (0, 0))
        have hownX := own_kept hown ((Keeps.refl [] w3).alloc (.cells #[.int .i64 1, .string sg, .int .i64 0, .int .i64 0] 91 (0, 0))) (by simp)
        refine hK _ _ ⟨(hk4).cell d6 (by simp), (hk4).cell dl0 (by simp), (hk4).cell dl1 (by simp), (hk4).cell z0 (by simp), (hk4).cell z1 (by simp), (hk4).cell z2 (by simp), (hk4).cell z3 (by simp)⟩ ?_
        clear hK K
        try simp only [Act.put, List.setIfInBounds_toArray, List.set_cons_zero, List.set_cons_succ, List.getElem_toArray, List.getElem_cons_succ, List.getElem_cons_zero]
        refine wpT_step rfl (by rfl) (fun K hK => ?_)
        refine wp_append_any rtTok _ _ (by rfl) wk.heap.size (.slice ao n cp) n (rowOf (x.toks false)) (by rfl) hownX (.slice (some ⟨w3.heap.size, 0, none⟩) 1 1) 1 [.int .i64 1, .string sg, .int .i64 0, .int .i64 0] (by rfl) (SlC.of_block (cs := #[.int .i64 1, .string sg, .int .i64 0, .int .i64 0]) (t := 91) (fr := (0, 0)) (heap_alloc_new _ _) (by rfl)) (by simp [Value.oneCell']) (by omega) (by unfold maxLen; omega) hk4.size ?_
        intro ao1 cp1 w5 hown1 hgrow hat hnil
        have hk5 := hk4.grown hgrow (fun k h => .inr (own_ge hownX h))
        refine hK _ _ ⟨(hk5).cell d6 (by simp), (hk5).cell dl0 (by simp), (hk5).cell dl1 (by simp), (hk5).cell z0 (by simp), (hk5).cell z1 (by simp), (hk5).cell z2 (by simp), (hk5).cell z3 (by simp)⟩ ?_
        clear hK K
        try simp only [Act.put, List.setIfInBounds_toArray, List.set_cons_zero, List.set_cons_succ, List.getElem_toArray, List.getElem_cons_succ, List.getElem_cons_zero]
        refine wpT_last rfl (by rfl) (fun K hK => ?_)
        go_simp
        have hky := hkk.then hk5
        refine (HIY.out _ d _ (HG.out.keep hky) (HO1.out.keep hky (by simp)) (HTY.out.keep hky)).mono ?_
        rintro e w6 ⟨⟨ao2, q2, cp2, rfl, hq2, hown2⟩, hk6⟩
        obtain rfl : n2 = q2 := HN2.out.symm.trans hq2
        have hk7 := hk5.then hk6
        have hownK := own_kept hown1 hk6 (by simp)
        refine hK _ _ ?_
        clear hK K
        try simp only [Act.put, List.setIfInBounds_toArray, List.set_cons_zero, List.set_cons_succ, List.getElem_toArray, List.getElem_cons_succ, List.getElem_cons_zero]
        refine wpT_last rfl (by rfl) (fun K hK => ?_)
        refine wp_append_any rtTok _ _ (by rfl) wk.heap.size (.slice ao1 (n + 1) cp1) (n + 1) _ (by rfl) hownK _ n2 (rowOf (y.toks false)) (by rfl) (SlC.of_own hown2) (rowOf_one _) (by omega) (by unfold maxLen; omega) hk7.size ?_
        intro ao1' cp1' w9 hown9 hgrow9 hat9 hnil9
        have hk9 := hkk.then (hk7.grown hgrow9 (fun k h => .inr (own_ge hownK h)))
        refine hK _ _ ?_
        clear hK K
        try simp only [Act.put, List.setIfInBounds_toArray, List.set_cons_zero, List.set_cons_succ, List.getElem_toArray, List.getElem_cons_succ, List.getElem_cons_zero]
        repeat (first
          | (refine wpT_pure (v := ?_) rfl (by rfl) ?_ ?_
             rotate_left 1
             · (intro w; go_simp; try with_reducible rfl)
             try simp only [Act.put, List.setIfInBounds_toArray, List.set_cons_zero, List.set_cons_succ, List.getElem_toArray, List.getElem_cons_succ, List.getElem_cons_zero]))
        refine wpT_done ?_
        have HO : Hid (w9.ownsRow w.heap.size 91 4 (.slice ao1' (n + 1 + n2) cp1') (n + 1 + n2) (rowOf (x.toks false ++ midT p.kind :: y.toks false))) := Lib.hid (by rw [HMid.out]; simpa [rowOf, wordT, signT] using own_mono hown9 hkk.size)
        have HK := Lib.hid hk9
        clear hown1 hgrow hat hnil hk9 hk7 hk6 hk5 hk4 hownK hown2 hown9 hgrow9 hat9 hnil9 hky hkx hown hk3
        clear hownX
        cases outer with
        | true =>
          go_wp2_with fail
          go_returns
          exact ⟨TokOut.of (by simp [Ex.toks, fenced, HN.out, HN2.out]; omega) HO.out, HK.out⟩
        | false =>
          have HSg := fun s w => Lib.hid (tokSign_any s w)
          go_wp2_with (first
            | (go_at_call 46; refine (HSg _ _).out.mono ?_; rintro e wa ⟨rfl, hka⟩)
            | (at_builtin
               first
                | (have hka1 := (HK.out.then hka).alloc (.cells #[.int .i64 4, .string ⟨#[40]⟩, .int .i64 0, .int .i64 0] 91 (0, 0))
                   have hla := own_kept HO.out (hka.alloc (.cells #[.int .i64 4, .string ⟨#[40]⟩, .int .i64 0, .int .i64 0] 91 (0, 0))) (by simp)
                   refine list_append_any rtTok (by rfl) _ _ (by rfl) w.heap.size (.slice (some ⟨wa.heap.size, 0, none⟩) 1 1) 1 [.int .i64 4, .string ⟨#[40]⟩, .int .i64 0, .int .i64 0] (by rfl) (own_mono (own_new wa #[.int .i64 4, .string ⟨#[40]⟩, .int .i64 0, .int .i64 0] 91 4 1 rfl (by decide)) (HK.out.then hka).size) _ (n + 1 + n2) (rowOf (x.toks false ++ midT p.kind :: y.toks false)) (by rfl) (SlC.of_own hla) (rowOf_one _) (by omega) (by unfold maxLen; omega) hka1.size ?_
                   intro aob cpb wb hownb hgrowb _ _
                   have hkb := hka1.grown hgrowb (fun k h => .inr (by cases h; exact (HK.out.then hka).size))
                   have HOB := Lib.hid hownb
                   have HKB := Lib.hid hkb
                   clear hka hka1 hla hownb hgrowb hkb)
                | (have hka1 := (HKB.out.then hka).alloc (.cells #[.int .i64 4, .string ⟨#[41]⟩, .int .i64 0, .int .i64 0] 91 (0, 0))
                   refine list_append_any rtTok (by rfl) _ _ (by rfl) w.heap.size (.slice aob (1 + (n + 1 + n2)) cpb) (1 + (n + 1 + n2)) _ (by rfl) (own_kept HOB.out (hka.alloc _) (by simp)) (.slice (some ⟨wa.heap.size, 0, none⟩) 1 1) 1 [.int .i64 4, .string ⟨#[41]⟩, .int .i64 0, .int .i64 0] (by rfl) (SlC.of_block (cs := #[.int .i64 4, .string ⟨#[41]⟩, .int .i64 0, .int .i64 0]) (t := 91) (fr := (0, 0)) (heap_alloc_new _ _) (by rfl)) (by simp [Value.oneCell']) (by omega) (by unfold maxLen; omega) hka1.size ?_
                   intro aoc cpc wc hownc hgrowc _ _
                   have hkc := hka1.grown hgrowc (fun k h => .inr (own_ge HOB.out h))
                   have HOC := Lib.hid hownc
                   have HKC := Lib.hid hkc
                   clear hka hka1 hownc hgrowc hkc)))
          go_returns
          exact ⟨TokOut.of (by simp [Ex.toks, fenced, HN.out, HN2.out]; omega) (by have h := HOC.out; simpa [Ex.toks, fenced, rowOf, signT, bOpen, bShut] using h), HKC.out⟩
      · skip
        go_simp
        have hk2 := hdk.alloc (.cells #[.int .i64 1, .string sg, .int .i64 0, .int .i64 0] 91 (0, 0))
        refine hK _ _ ⟨(hk2).cell d6 (by simp), (hk2).cell dl0 (by simp), (hk2).cell dl1 (by simp), (hk2).cell z0 (by simp), (hk2).cell z1 (by simp), (hk2).cell z2 (by simp), (hk2).cell z3 (by simp)⟩ ?_
        clear hK K
        try simp only [Act.put, List.setIfInBounds_toArray, List.set_cons_zero, List.set_cons_succ, List.getElem_toArray, List.getElem_cons_succ, List.getElem_cons_zero]
        refine wpT_step rfl (by rfl) (fun K hK => ?_)
        go_simp
        have hkx := hkk.then hk2
        refine (HIX.out _ b _ (HG.out.keep hkx) (HO1.out.keep hkx (by simp)) (HTX.out.keep hkx)).mono ?_
        rintro e w3 ⟨⟨ao, q, cp, rfl, hq, hown⟩, hk3⟩
        obtain rfl : n = q := HN.out.symm.trans hq
        have hbl := hk3.heap (heap_alloc_new wk.drew (.cells #[.int .i64 1, .string sg, .int .i64 0, .int .i64 0] 91 (0, 0))) (by simp)
        have hk3 : Keeps [] wk w3 := (hk2).then hk3
        refine hK _ _ ⟨(hk3).cell d6 (by simp), (hk3).cell dl0 (by simp), (hk3).cell dl1 (by simp), (hk3).cell z0 (by simp), (hk3).cell z1 (by simp), (hk3).cell z2 (by simp), (hk3).cell z3 (by simp)⟩ ?_
        clear hK K
        try simp only [Act.put, List.setIfInBounds_toArray, List.set_cons_zero, List.set_cons_succ, List.getElem_toArray, List.getElem_cons_succ, List.getElem_cons_zero]
        refine wpT_step rfl (by rfl) (fun K hK => ?_)
        have hownX := own_mono hown hk2.size
        have hk4 := hk3
        refine wp_append_any rtTok _ _ (by rfl) wk.heap.size (.slice ao n cp) n (rowOf (x.toks false)) (by rfl) hownX (.slice (some ⟨wk.heap.size, 0, none⟩) 1 1) 1 [.int .i64 1, .string sg, .int .i64 0, .int .i64 0] (by rfl) (SlC.of_block (cs := #[.int .i64 1, .string sg, .int .i64 0, .int .i64 0]) (t := 91) (fr := (0, 0)) hbl (by rfl)) (by simp [Value.oneCell']) (by omega) (by unfold maxLen; omega) hk4.size ?_
        intro ao1 cp1 w5 hown1 hgrow hat hnil
        have hk5 := hk4.grown hgrow (fun k h => .inr (own_ge hownX h))
        refine hK _ _ ⟨(hk5).cell d6 (by simp), (hk5).cell dl0 (by simp), (hk5).cell dl1 (by simp), (hk5).cell z0 (by simp), (hk5).cell z1 (by simp), (hk5).cell z2 (by simp), (hk5).cell z3 (by simp)⟩ ?_
        clear hK K
        try simp only [Act.put, List.setIfInBounds_toArray, List.set_cons_zero, List.set_cons_succ, List.getElem_toArray, List.getElem_cons_succ, List.getElem_cons_zero]
        refine wpT_last rfl (by rfl) (fun K hK => ?_)
        go_simp
        have hky := hkk.then hk5
        refine (HIY.out _ d _ (HG.out.keep hky) (HO1.out.keep hky (by simp)) (HTY.out.keep hky)).mono ?_
        rintro e w6 ⟨⟨ao2, q2, cp2, rfl, hq2, hown2⟩, hk6⟩
        obtain rfl : n2 = q2 := HN2.out.symm.trans hq2
        have hk7 := hk5.then hk6
        have hownK := own_kept hown1 hk6 (by simp)
        refine hK _ _ ?_
        clear hK K
        try simp only [Act.put, List.setIfInBounds_toArray, List.set_cons_zero, List.set_cons_succ, List.getElem_toArray, List.getElem_cons_succ, List.getElem_cons_zero]
        refine wpT_last rfl (by rfl) (fun K hK => ?_)
        refine wp_append_any rtTok _ _ (by rfl) wk.heap.size (.slice ao1 (n + 1) cp1) (n + 1) _ (by rfl) hownK _ n2 (rowOf (y.toks false)) (by rfl) (SlC.of_own hown2) (rowOf_one _) (by omega) (by unfold maxLen; omega) hk7.size ?_
        intro ao1' cp1' w9 hown9 hgrow9 hat9 hnil9
        have hk9 := hkk.then (hk7.grown hgrow9 (fun k h => .inr (own_ge hownK h)))
        refine hK _ _ ?_
        clear hK K
        try simp only [Act.put, List.setIfInBounds_toArray, List.set_cons_zero, List.set_cons_succ, List.getElem_toArray, List.getElem_cons_succ, List.getElem_cons_zero]
        repeat (first
          | (refine wpT_pure (v := ?_) rfl (by rfl) ?_ ?_
             rotate_left 1
             · (intro w; go_simp; try with_reducible rfl)
             try simp only [Act.put, List.setIfInBounds_toArray, List.set_cons_zero, List.set_cons_succ, List.getElem_toArray, List.getElem_cons_succ, List.getElem_cons_zero]))
        refine wpT_done ?_
        have HO : Hid (w9.ownsRow w.heap.size 91 4 (.slice ao1' (n + 1 + n2) cp1') (n + 1 + n2) (rowOf (x.toks false ++ midT p.kind :: y.toks false))) := Lib.hid (by rw [HMid.out]; simpa [rowOf, wordT, signT] using own_mono hown9 hkk.size)
        have HK := Lib.hid hk9
        clear hown1 hgrow hat hnil hk9 hk7 hk6 hk5 hk4 hownK hown2 hown9 hgrow9 hat9 hnil9 hky hkx hown hk3
        clear hownX hbl hk2
        cases outer with
        | true =>
          go_wp2_with fail
          go_returns
          exact ⟨TokOut.of (by simp [Ex.toks, fenced, HN.out, HN2.out]; omega) HO.out, HK.out⟩
        | false =>
          have HSg := fun s w => Lib.hid (tokSign_any s w)
          go_wp2_with (first
            | (go_at_call 46; refine (HSg _ _).out.mono ?_; rintro e wa ⟨rfl, hka⟩)
            | (at_builtin
               first
                | (have hka1 := (HK.out.then hka).alloc (.cells #[.int .i64 4, .string ⟨#[40]⟩, .int .i64 0, .int .i64 0] 91 (0, 0))
                   have hla := own_kept HO.out (hka.alloc (.cells #[.int .i64 4, .string ⟨#[40]⟩, .int .i64 0, .int .i64 0] 91 (0, 0))) (by simp)
                   refine list_append_any rtTok (by rfl) _ _ (by rfl) w.heap.size (.slice (some ⟨wa.heap.size, 0, none⟩) 1 1) 1 [.int .i64 4, .string ⟨#[40]⟩, .int .i64 0, .int .i64 0] (by rfl) (own_mono (own_new wa #[.int .i64 4, .string ⟨#[40]⟩, .int .i64 0, .int .i64 0] 91 4 1 rfl (by decide)) (HK.out.then hka).size) _ (n + 1 + n2) (rowOf (x.toks false ++ midT p.kind :: y.toks false)) (by rfl) (SlC.of_own hla) (rowOf_one _) (by omega) (by unfold maxLen; omega) hka1.size ?_
                   intro aob cpb wb hownb hgrowb _ _
                   have hkb := hka1.grown hgrowb (fun k h => .inr (by cases h; exact (HK.out.then hka).size))
                   have HOB := Lib.hid hownb
                   have HKB := Lib.hid hkb
                   clear hka hka1 hla hownb hgrowb hkb)
                | (have hka1 := (HKB.out.then hka).alloc (.cells #[.int .i64 4, .string ⟨#[41]⟩, .int .i64 0, .int .i64 0] 91 (0, 0))
                   refine list_append_any rtTok (by rfl) _ _ (by rfl) w.heap.size (.slice aob (1 + (n + 1 + n2)) cpb) (1 + (n + 1 + n2)) _ (by rfl) (own_kept HOB.out (hka.alloc _) (by simp)) (.slice (some ⟨wa.heap.size, 0, none⟩) 1 1) 1 [.int .i64 4, .string ⟨#[41]⟩, .int .i64 0, .int .i64 0] (by rfl) (SlC.of_block (cs := #[.int .i64 4, .string ⟨#[41]⟩, .int .i64 0, .int .i64 0]) (t := 91) (fr := (0, 0)) (heap_alloc_new _ _) (by rfl)) (by simp [Value.oneCell']) (by omega) (by unfold maxLen; omega) hka1.size ?_
                   intro aoc cpc wc hownc hgrowc _ _
                   have hkc := hka1.grown hgrowc (fun k h => .inr (own_ge HOB.out h))
                   have HOC := Lib.hid hownc
                   have HKC := Lib.hid hkc
                   clear hka hka1 hownc hgrowc hkc)))
          go_returns
          exact ⟨TokOut.of (by simp [Ex.toks, fenced, HN.out, HN2.out]; omega) (by have h := HOC.out; simpa [Ex.toks, fenced, rowOf, signT, bOpen, bShut] using h), HKC.out⟩
    · have HMid2 : Hid (midT p.kind = signT sg) := Lib.hid (HMid.out.trans (if_neg (fun h => hi3 h.2)))
      clear HMid
      have HMid := HMid2
      clear HMid2
      have d3 : (is_ == 3) = false := by rw [beq_eq_false_iff_ne]; exact hi3
      clear hi3
      repeat (go_quiet (fail); try go_wp2_with fail)
      obtain ⟨wk, hwk⟩ : ∃ wk, wk = w1.drewN nq := ⟨_, rfl⟩
      have hT8k : wk.heap[T8]? = some (Obj.cells #[.int .i64 4, .string sg, .int .i64 0, .int .i64 0] 91 (0, 0)) := by rw [hwk]; exact hT8
      have hkk : Keeps [] w wk := by rw [hwk]; exact hk1.drewN _
      rw [← hwk]
      clear hwk hT8 hk1 o0 o3 o5 c5
      have t8 := tok_block hT8k
      obtain ⟨z0, z1, z2, z3, _, _, _, _⟩ := t8
      have d6 := hkk.cell c6 (by simp)
      have dl0 := hkk.cell hl0 (by simp)
      have dl1 := hkk.cell hl1 (by simp)
      have hdk := (Keeps.refl [] wk).drew
      refine wp_region_tree (fun W' => W'.cell? ⟨a, 6, none⟩ = some (.slice (some ⟨lb, 0, none⟩) 2 c) ∧ W'.cell? ⟨lb, 0, none⟩ = some (.pointer (some ⟨b, 0, none⟩)) ∧ W'.cell? ⟨lb, 1, none⟩ = some (.pointer (some ⟨d, 0, none⟩)) ∧ W'.cell? ⟨T8, 0, none⟩ = some (.int .i64 4) ∧ W'.cell? ⟨T8, 1, none⟩ = some (.string sg) ∧ W'.cell? ⟨T8, 2, none⟩ = some (.int .i64 0) ∧ W'.cell? ⟨T8, 3, none⟩ = some (.int .i64 0)) [16] (.op 0 0 (.op 1 0 (.op 2 0 (.op 3 1 (.op 4 0 (.op 5 1 (.op 7 1 (.op 10 0 (.op 11 0 (.op 12 0 (.op 13 1 (.op 14 0 (.op 15 1 (.alt 6 (.op 8 2 (.op 9 2 (.op 16 3 (.op 17 3 (.op 18 0 (.done)))))) 8 (.op 6 2 (.op 9 2 (.op 16 3 (.op 17 3 (.op 18 0 (.done)))))))))))))))))))) (by kernel_rfl) (by kernel_rfl) (fun _ d _ _ _ h => by cases d <;> exact h) ⟨hdk.cell d6 (by simp), hdk.cell dl0 (by simp), hdk.cell dl1 (by simp), hdk.cell z0 (by simp), hdk.cell z1 (by simp), hdk.cell z2 (by simp), hdk.cell z3 (by simp)⟩ ?_
      repeat (first
        | (refine wpT_pure (v := ?_) rfl (by rfl) ?_ ?_
           rotate_left 1
           · (intro w; go_simp; try with_reducible rfl)
           try simp only [Act.put, List.setIfInBounds_toArray, List.set_cons_zero, List.set_cons_succ, List.getElem_toArray, List.getElem_cons_succ, List.getElem_cons_zero])
        | (refine wpT_held (v := ?_) rfl (by rfl) ?_ ?_
           rotate_left 1
           · (rintro w ⟨hs0, hs1, hs2, hs3, hs4, hs5, hs6⟩; go_simp; try with_reducible rfl)
           try simp only [Act.put, List.setIfInBounds_toArray, List.set_cons_zero, List.set_cons_succ, List.getElem_toArray, List.getElem_cons_succ, List.getElem_cons_zero]))
      refine wpT_alt rfl rfl (by rfl) (by rfl) (fun K hK => ?_) (fun K hK => ?_)
      · skip
        go_simp
        have hkx := hkk.then hdk
        refine (HIX.out _ b _ (HG.out.keep hkx) (HO1.out.keep hkx (by simp)) (HTX.out.keep hkx)).mono ?_
        rintro e w3 ⟨⟨ao, q, cp, rfl, hq, hown⟩, hk3⟩
        obtain rfl : n = q := HN.out.symm.trans hq
        have hk3 : Keeps [] wk w3 := (hdk).then hk3
        refine hK _ _ ⟨(hk3).cell d6 (by simp), (hk3).cell dl0 (by simp), (hk3).cell dl1 (by simp), (hk3).cell z0 (by simp), (hk3).cell z1 (by simp), (hk3).cell z2 (by simp), (hk3).cell z3 (by simp)⟩ ?_
        clear hK K
        try simp only [Act.put, List.setIfInBounds_toArray, List.set_cons_zero, List.set_cons_succ, List.getElem_toArray, List.getElem_cons_succ, List.getElem_cons_zero]
        refine wpT_step rfl (by rfl) (fun K hK => ?_)
        go_simp
        have hk4 := hk3.alloc (.cells #[.int .i64 4, .string sg, .int .i64 0, .int .i64 0] 91 (0, 0))
        have hownX := own_kept hown ((Keeps.refl [] w3).alloc (.cells #[.int .i64 4, .string sg, .int .i64 0, .int .i64 0] 91 (0, 0))) (by simp)
        refine hK _ _ ⟨(hk4).cell d6 (by simp), (hk4).cell dl0 (by simp), (hk4).cell dl1 (by simp), (hk4).cell z0 (by simp), (hk4).cell z1 (by simp), (hk4).cell z2 (by simp), (hk4).cell z3 (by simp)⟩ ?_
        clear hK K
        try simp only [Act.put, List.setIfInBounds_toArray, List.set_cons_zero, List.set_cons_succ, List.getElem_toArray, List.getElem_cons_succ, List.getElem_cons_zero]
        refine wpT_step rfl (by rfl) (fun K hK => ?_)
        refine wp_append_any rtTok _ _ (by rfl) wk.heap.size (.slice ao n cp) n (rowOf (x.toks false)) (by rfl) hownX (.slice (some ⟨w3.heap.size, 0, none⟩) 1 1) 1 [.int .i64 4, .string sg, .int .i64 0, .int .i64 0] (by rfl) (SlC.of_block (cs := #[.int .i64 4, .string sg, .int .i64 0, .int .i64 0]) (t := 91) (fr := (0, 0)) (heap_alloc_new _ _) (by rfl)) (by simp [Value.oneCell']) (by omega) (by unfold maxLen; omega) hk4.size ?_
        intro ao1 cp1 w5 hown1 hgrow hat hnil
        have hk5 := hk4.grown hgrow (fun k h => .inr (own_ge hownX h))
        refine hK _ _ ⟨(hk5).cell d6 (by simp), (hk5).cell dl0 (by simp), (hk5).cell dl1 (by simp), (hk5).cell z0 (by simp), (hk5).cell z1 (by simp), (hk5).cell z2 (by simp), (hk5).cell z3 (by simp)⟩ ?_
        clear hK K
        try simp only [Act.put, List.setIfInBounds_toArray, List.set_cons_zero, List.set_cons_succ, List.getElem_toArray, List.getElem_cons_succ, List.getElem_cons_zero]
        refine wpT_last rfl (by rfl) (fun K hK => ?_)
        go_simp
        have hky := hkk.then hk5
        refine (HIY.out _ d _ (HG.out.keep hky) (HO1.out.keep hky (by simp)) (HTY.out.keep hky)).mono ?_
        rintro e w6 ⟨⟨ao2, q2, cp2, rfl, hq2, hown2⟩, hk6⟩
        obtain rfl : n2 = q2 := HN2.out.symm.trans hq2
        have hk7 := hk5.then hk6
        have hownK := own_kept hown1 hk6 (by simp)
        refine hK _ _ ?_
        clear hK K
        try simp only [Act.put, List.setIfInBounds_toArray, List.set_cons_zero, List.set_cons_succ, List.getElem_toArray, List.getElem_cons_succ, List.getElem_cons_zero]
        refine wpT_last rfl (by rfl) (fun K hK => ?_)
        refine wp_append_any rtTok _ _ (by rfl) wk.heap.size (.slice ao1 (n + 1) cp1) (n + 1) _ (by rfl) hownK _ n2 (rowOf (y.toks false)) (by rfl) (SlC.of_own hown2) (rowOf_one _) (by omega) (by unfold maxLen; omega) hk7.size ?_
        intro ao1' cp1' w9 hown9 hgrow9 hat9 hnil9
        have hk9 := hkk.then (hk7.grown hgrow9 (fun k h => .inr (own_ge hownK h)))
        refine hK _ _ ?_
        clear hK K
        try simp only [Act.put, List.setIfInBounds_toArray, List.set_cons_zero, List.set_cons_succ, List.getElem_toArray, List.getElem_cons_succ, List.getElem_cons_zero]
        repeat (first
          | (refine wpT_pure (v := ?_) rfl (by rfl) ?_ ?_
             rotate_left 1
             · (intro w; go_simp; try with_reducible rfl)
             try simp only [Act.put, List.setIfInBounds_toArray, List.set_cons_zero, List.set_cons_succ, List.getElem_toArray, List.getElem_cons_succ, List.getElem_cons_zero]))
        refine wpT_done ?_
        have HO : Hid (w9.ownsRow w.heap.size 91 4 (.slice ao1' (n + 1 + n2) cp1') (n + 1 + n2) (rowOf (x.toks false ++ midT p.kind :: y.toks false))) := Lib.hid (by rw [HMid.out]; simpa [rowOf, wordT, signT] using own_mono hown9 hkk.size)
        have HK := Lib.hid hk9
        clear hown1 hgrow hat hnil hk9 hk7 hk6 hk5 hk4 hownK hown2 hown9 hgrow9 hat9 hnil9 hky hkx hown hk3
        clear hownX
        cases outer with
        | true =>
          go_wp2_with fail
          go_returns
          exact ⟨TokOut.of (by simp [Ex.toks, fenced, HN.out, HN2.out]; omega) HO.out, HK.out⟩
        | false =>
          have HSg := fun s w => Lib.hid (tokSign_any s w)
          go_wp2_with (first
            | (go_at_call 46; refine (HSg _ _).out.mono ?_; rintro e wa ⟨rfl, hka⟩)
            | (at_builtin
               first
                | (have hka1 := (HK.out.then hka).alloc (.cells #[.int .i64 4, .string ⟨#[40]⟩, .int .i64 0, .int .i64 0] 91 (0, 0))
                   have hla := own_kept HO.out (hka.alloc (.cells #[.int .i64 4, .string ⟨#[40]⟩, .int .i64 0, .int .i64 0] 91 (0, 0))) (by simp)
                   refine list_append_any rtTok (by rfl) _ _ (by rfl) w.heap.size (.slice (some ⟨wa.heap.size, 0, none⟩) 1 1) 1 [.int .i64 4, .string ⟨#[40]⟩, .int .i64 0, .int .i64 0] (by rfl) (own_mono (own_new wa #[.int .i64 4, .string ⟨#[40]⟩, .int .i64 0, .int .i64 0] 91 4 1 rfl (by decide)) (HK.out.then hka).size) _ (n + 1 + n2) (rowOf (x.toks false ++ midT p.kind :: y.toks false)) (by rfl) (SlC.of_own hla) (rowOf_one _) (by omega) (by unfold maxLen; omega) hka1.size ?_
                   intro aob cpb wb hownb hgrowb _ _
                   have hkb := hka1.grown hgrowb (fun k h => .inr (by cases h; exact (HK.out.then hka).size))
                   have HOB := Lib.hid hownb
                   have HKB := Lib.hid hkb
                   clear hka hka1 hla hownb hgrowb hkb)
                | (have hka1 := (HKB.out.then hka).alloc (.cells #[.int .i64 4, .string ⟨#[41]⟩, .int .i64 0, .int .i64 0] 91 (0, 0))
                   refine list_append_any rtTok (by rfl) _ _ (by rfl) w.heap.size (.slice aob (1 + (n + 1 + n2)) cpb) (1 + (n + 1 + n2)) _ (by rfl) (own_kept HOB.out (hka.alloc _) (by simp)) (.slice (some ⟨wa.heap.size, 0, none⟩) 1 1) 1 [.int .i64 4, .string ⟨#[41]⟩, .int .i64 0, .int .i64 0] (by rfl) (SlC.of_block (cs := #[.int .i64 4, .string ⟨#[41]⟩, .int .i64 0, .int .i64 0]) (t := 91) (fr := (0, 0)) (heap_alloc_new _ _) (by rfl)) (by simp [Value.oneCell']) (by omega) (by unfold maxLen; omega) hka1.size ?_
                   intro aoc cpc wc hownc hgrowc _ _
                   have hkc := hka1.grown hgrowc (fun k h => .inr (own_ge HOB.out h))
                   have HOC := Lib.hid hownc
                   have HKC := Lib.hid hkc
                   clear hka hka1 hownc hgrowc hkc)))
          go_returns
          exact ⟨TokOut.of (by simp [Ex.toks, fenced, HN.out, HN2.out]; omega) (by have h := HOC.out; simpa [Ex.toks, fenced, rowOf, signT, bOpen, bShut] using h), HKC.out⟩
      · skip
        go_simp
        have hk2 := hdk.alloc (.cells #[.int .i64 4, .string sg, .int .i64 0, .int .i64 0] 91 (0, 0))
        refine hK _ _ ⟨(hk2).cell d6 (by simp), (hk2).cell dl0 (by simp), (hk2).cell dl1 (by simp), (hk2).cell z0 (by simp), (hk2).cell z1 (by simp), (hk2).cell z2 (by simp), (hk2).cell z3 (by simp)⟩ ?_
        clear hK K
        try simp only [Act.put, List.setIfInBounds_toArray, List.set_cons_zero, List.set_cons_succ, List.getElem_toArray, List.getElem_cons_succ, List.getElem_cons_zero]
        refine wpT_step rfl (by rfl) (fun K hK => ?_)
        go_simp
        have hkx := hkk.then hk2
        refine (HIX.out _ b _ (HG.out.keep hkx) (HO1.out.keep hkx (by simp)) (HTX.out.keep hkx)).mono ?_
        rintro e w3 ⟨⟨ao, q, cp, rfl, hq, hown⟩, hk3⟩
        obtain rfl : n = q := HN.out.symm.trans hq
        have hbl := hk3.heap (heap_alloc_new wk.drew (.cells #[.int .i64 4, .string sg, .int .i64 0, .int .i64 0] 91 (0, 0))) (by simp)
        have hk3 : Keeps [] wk w3 := (hk2).then hk3
        refine hK _ _ ⟨(hk3).cell d6 (by simp), (hk3).cell dl0 (by simp), (hk3).cell dl1 (by simp), (hk3).cell z0 (by simp), (hk3).cell z1 (by simp), (hk3).cell z2 (by simp), (hk3).cell z3 (by simp)⟩ ?_
        clear hK K
        try simp only [Act.put, List.setIfInBounds_toArray, List.set_cons_zero, List.set_cons_succ, List.getElem_toArray, List.getElem_cons_succ, List.getElem_cons_zero]
        refine wpT_step rfl (by rfl) (fun K hK => ?_)
        have hownX := own_mono hown hk2.size
        have hk4 := hk3
        refine wp_append_any rtTok _ _ (by rfl) wk.heap.size (.slice ao n cp) n (rowOf (x.toks false)) (by rfl) hownX (.slice (some ⟨wk.heap.size, 0, none⟩) 1 1) 1 [.int .i64 4, .string sg, .int .i64 0, .int .i64 0] (by rfl) (SlC.of_block (cs := #[.int .i64 4, .string sg, .int .i64 0, .int .i64 0]) (t := 91) (fr := (0, 0)) hbl (by rfl)) (by simp [Value.oneCell']) (by omega) (by unfold maxLen; omega) hk4.size ?_
        intro ao1 cp1 w5 hown1 hgrow hat hnil
        have hk5 := hk4.grown hgrow (fun k h => .inr (own_ge hownX h))
        refine hK _ _ ⟨(hk5).cell d6 (by simp), (hk5).cell dl0 (by simp), (hk5).cell dl1 (by simp), (hk5).cell z0 (by simp), (hk5).cell z1 (by simp), (hk5).cell z2 (by simp), (hk5).cell z3 (by simp)⟩ ?_
        clear hK K
        try simp only [Act.put, List.setIfInBounds_toArray, List.set_cons_zero, List.set_cons_succ, List.getElem_toArray, List.getElem_cons_succ, List.getElem_cons_zero]
        refine wpT_last rfl (by rfl) (fun K hK => ?_)
        go_simp
        have hky := hkk.then hk5
        refine (HIY.out _ d _ (HG.out.keep hky) (HO1.out.keep hky (by simp)) (HTY.out.keep hky)).mono ?_
        rintro e w6 ⟨⟨ao2, q2, cp2, rfl, hq2, hown2⟩, hk6⟩
        obtain rfl : n2 = q2 := HN2.out.symm.trans hq2
        have hk7 := hk5.then hk6
        have hownK := own_kept hown1 hk6 (by simp)
        refine hK _ _ ?_
        clear hK K
        try simp only [Act.put, List.setIfInBounds_toArray, List.set_cons_zero, List.set_cons_succ, List.getElem_toArray, List.getElem_cons_succ, List.getElem_cons_zero]
        refine wpT_last rfl (by rfl) (fun K hK => ?_)
        refine wp_append_any rtTok _ _ (by rfl) wk.heap.size (.slice ao1 (n + 1) cp1) (n + 1) _ (by rfl) hownK _ n2 (rowOf (y.toks false)) (by rfl) (SlC.of_own hown2) (rowOf_one _) (by omega) (by unfold maxLen; omega) hk7.size ?_
        intro ao1' cp1' w9 hown9 hgrow9 hat9 hnil9
        have hk9 := hkk.then (hk7.grown hgrow9 (fun k h => .inr (own_ge hownK h)))
        refine hK _ _ ?_
        clear hK K
        try simp only [Act.put, List.setIfInBounds_toArray, List.set_cons_zero, List.set_cons_succ, List.getElem_toArray, List.getElem_cons_succ, List.getElem_cons_zero]
        repeat (first
          | (refine wpT_pure (v := ?_) rfl (by rfl) ?_ ?_
             rotate_left 1
             · (intro w; go_simp; try with_reducible rfl)
             try simp only [Act.put, List.setIfInBounds_toArray, List.set_cons_zero, List.set_cons_succ, List.getElem_toArray, List.getElem_cons_succ, List.getElem_cons_zero]))
        refine wpT_done ?_
        have HO : Hid (w9.ownsRow w.heap.size 91 4 (.slice ao1' (n + 1 + n2) cp1') (n + 1 + n2) (rowOf (x.toks false ++ midT p.kind :: y.toks false))) := Lib.hid (by rw [HMid.out]; simpa [rowOf, wordT, signT] using own_mono hown9 hkk.size)
        have HK := Lib.hid hk9
        clear hown1 hgrow hat hnil hk9 hk7 hk6 hk5 hk4 hownK hown2 hown9 hgrow9 hat9 hnil9 hky hkx hown hk3
        clear hownX hbl hk2
        cases outer with
        | true =>
          go_wp2_with fail
          go_returns
          exact ⟨TokOut.of (by simp [Ex.toks, fenced, HN.out, HN2.out]; omega) HO.out, HK.out⟩
        | false =>
          have HSg := fun s w => Lib.hid (tokSign_any s w)
          go_wp2_with (first
            | (go_at_call 46; refine (HSg _ _).out.mono ?_; rintro e wa ⟨rfl, hka⟩)
            | (at_builtin
               first
                | (have hka1 := (HK.out.then hka).alloc (.cells #[.int .i64 4, .string ⟨#[40]⟩, .int .i64 0, .int .i64 0] 91 (0, 0))
                   have hla := own_kept HO.out (hka.alloc (.cells #[.int .i64 4, .string ⟨#[40]⟩, .int .i64 0, .int .i64 0] 91 (0, 0))) (by simp)
                   refine list_append_any rtTok (by rfl) _ _ (by rfl) w.heap.size (.slice (some ⟨wa.heap.size, 0, none⟩) 1 1) 1 [.int .i64 4, .string ⟨#[40]⟩, .int .i64 0, .int .i64 0] (by rfl) (own_mono (own_new wa #[.int .i64 4, .string ⟨#[40]⟩, .int .i64 0, .int .i64 0] 91 4 1 rfl (by decide)) (HK.out.then hka).size) _ (n + 1 + n2) (rowOf (x.toks false ++ midT p.kind :: y.toks false)) (by rfl) (SlC.of_own hla) (rowOf_one _) (by omega) (by unfold maxLen; omega) hka1.size ?_
                   intro aob cpb wb hownb hgrowb _ _
                   have hkb := hka1.grown hgrowb (fun k h => .inr (by cases h; exact (HK.out.then hka).size))
                   have HOB := Lib.hid hownb
                   have HKB := Lib.hid hkb
                   clear hka hka1 hla hownb hgrowb hkb)
                | (have hka1 := (HKB.out.then hka).alloc (.cells #[.int .i64 4, .string ⟨#[41]⟩, .int .i64 0, .int .i64 0] 91 (0, 0))
                   refine list_append_any rtTok (by rfl) _ _ (by rfl) w.heap.size (.slice aob (1 + (n + 1 + n2)) cpb) (1 + (n + 1 + n2)) _ (by rfl) (own_kept HOB.out (hka.alloc _) (by simp)) (.slice (some ⟨wa.heap.size, 0, none⟩) 1 1) 1 [.int .i64 4, .string ⟨#[41]⟩, .int .i64 0, .int .i64 0] (by rfl) (SlC.of_block (cs := #[.int .i64 4, .string ⟨#[41]⟩, .int .i64 0, .int .i64 0]) (t := 91) (fr := (0, 0)) (heap_alloc_new _ _) (by rfl)) (by simp [Value.oneCell']) (by omega) (by unfold maxLen; omega) hka1.size ?_
                   intro aoc cpc wc hownc hgrowc _ _
                   have hkc := hka1.grown hgrowc (fun k h => .inr (own_ge HOB.out h))
                   have HOC := Lib.hid hownc
                   have HKC := Lib.hid hkc
                   clear hka hka1 hownc hgrowc hkc)))
          go_returns
          exact ⟨TokOut.of (by simp [Ex.toks, fenced, HN.out, HN2.out]; omega) (by have h := HOC.out; simpa [Ex.toks, fenced, rowOf, signT, bOpen, bShut] using h), HKC.out⟩
  · rw [if_neg (fun h => hio h.1)] at HMid
    have d3 : (is_ == of_) = false := by rw [beq_eq_false_iff_ne]; exact hio
    clear hio
    repeat (go_quiet (fail); try go_wp2_with fail)
    obtain ⟨wk, hwk⟩ : ∃ wk, wk = w1.drewN nq := ⟨_, rfl⟩
    have hT8k : wk.heap[T8]? = some (Obj.cells #[.int .i64 4, .string sg, .int .i64 0, .int .i64 0] 91 (0, 0)) := by rw [hwk]; exact hT8
    have hkk : Keeps [] w wk := by rw [hwk]; exact hk1.drewN _
    rw [← hwk]
    clear hwk hT8 hk1 o0 o3 o5 c5
    have t8 := tok_block hT8k
    obtain ⟨z0, z1, z2, z3, _, _, _, _⟩ := t8
    have d6 := hkk.cell c6 (by simp)
    have dl0 := hkk.cell hl0 (by simp)
    have dl1 := hkk.cell hl1 (by simp)
    have hdk := (Keeps.refl [] wk).drew
    refine wp_region_tree (fun W' => W'.cell? ⟨a, 6, none⟩ = some (.slice (some ⟨lb, 0, none⟩) 2 c) ∧ W'.cell? ⟨lb, 0, none⟩ = some (.pointer (some ⟨b, 0, none⟩)) ∧ W'.cell? ⟨lb, 1, none⟩ = some (.pointer (some ⟨d, 0, none⟩)) ∧ W'.cell? ⟨T8, 0, none⟩ = some (.int .i64 4) ∧ W'.cell? ⟨T8, 1, none⟩ = some (.string sg) ∧ W'.cell? ⟨T8, 2, none⟩ = some (.int .i64 0) ∧ W'.cell? ⟨T8, 3, none⟩ = some (.int .i64 0)) [16] (.op 0 0 (.op 1 0 (.op 2 0 (.op 3 1 (.op 4 0 (.op 5 1 (.op 7 1 (.op 10 0 (.op 11 0 (.op 12 0 (.op 13 1 (.op 14 0 (.op 15 1 (.alt 6 (.op 8 2 (.op 9 2 (.op 16 3 (.op 17 3 (.op 18 0 (.done)))))) 8 (.op 6 2 (.op 9 2 (.op 16 3 (.op 17 3 (.op 18 0 (.done)))))))))))))))))))) (by kernel_rfl) (by kernel_rfl) (fun _ d _ _ _ h => by cases d <;> exact h) ⟨hdk.cell d6 (by simp), hdk.cell dl0 (by simp), hdk.cell dl1 (by simp), hdk.cell z0 (by simp), hdk.cell z1 (by simp), hdk.cell z2 (by simp), hdk.cell z3 (by simp)⟩ ?_
    repeat (first
      | (refine wpT_pure (v := ?_) rfl (by rfl) ?_ ?_
         rotate_left 1
         · (intro w; go_simp; try with_reducible rfl)
         try simp only [Act.put, List.setIfInBounds_toArray, List.set_cons_zero, List.set_cons_succ, List.getElem_toArray, List.getElem_cons_succ, List.getElem_cons_zero])
      | (refine wpT_held (v := ?_) rfl (by rfl) ?_ ?_
         rotate_left 1
         · (rintro w ⟨hs0, hs1, hs2, hs3, hs4, hs5, hs6⟩; go_simp; try with_reducible rfl)
         try simp only [Act.put, List.setIfInBounds_toArray, List.set_cons_zero, List.set_cons_succ, List.getElem_toArray, List.getElem_cons_succ, List.getElem_cons_zero]))
    refine wpT_alt rfl rfl (by rfl) (by rfl) (fun K hK => ?_) (fun K hK => ?_)
    · skip
      go_simp
      have hkx := hkk.then hdk
      refine (HIX.out _ b _ (HG.out.keep hkx) (HO1.out.keep hkx (by simp)) (HTX.out.keep hkx)).mono ?_
      rintro e w3 ⟨⟨ao, q, cp, rfl, hq, hown⟩, hk3⟩
      obtain rfl : n = q := HN.out.symm.trans hq
      have hk3 : Keeps [] wk w3 := (hdk).then hk3
      refine hK _ _ ⟨(hk3).cell d6 (by simp), (hk3).cell dl0 (by simp), (hk3).cell dl1 (by simp), (hk3).cell z0 (by simp), (hk3).cell z1 (by simp), (hk3).cell z2 (by simp), (hk3).cell z3 (by simp)⟩ ?_
      clear hK K
      try simp only [Act.put, List.setIfInBounds_toArray, List.set_cons_zero, List.set_cons_succ, List.getElem_toArray, List.getElem_cons_succ, List.getElem_cons_zero]
      refine wpT_step rfl (by rfl) (fun K hK => ?_)
      go_simp
      have hk4 := hk3.alloc (.cells #[.int .i64 4, .string sg, .int .i64 0, .int .i64 0] 91 (0, 0))
      have hownX := own_kept hown ((Keeps.refl [] w3).alloc (.cells #[.int .i64 4, .string sg, .int .i64 0, .int .i64 0] 91 (0, 0))) (by simp)
      refine hK _ _ ⟨(hk4).cell d6 (by simp), (hk4).cell dl0 (by simp), (hk4).cell dl1 (by simp), (hk4).cell z0 (by simp), (hk4).cell z1 (by simp), (hk4).cell z2 (by simp), (hk4).cell z3 (by simp)⟩ ?_
      clear hK K
      try simp only [Act.put, List.setIfInBounds_toArray, List.set_cons_zero, List.set_cons_succ, List.getElem_toArray, List.getElem_cons_succ, List.getElem_cons_zero]
      refine wpT_step rfl (by rfl) (fun K hK => ?_)
      refine wp_append_any rtTok _ _ (by rfl) wk.heap.size (.slice ao n cp) n (rowOf (x.toks false)) (by rfl) hownX (.slice (some ⟨w3.heap.size, 0, none⟩) 1 1) 1 [.int .i64 4, .string sg, .int .i64 0, .int .i64 0] (by rfl) (SlC.of_block (cs := #[.int .i64 4, .string sg, .int .i64 0, .int .i64 0]) (t := 91) (fr := (0, 0)) (heap_alloc_new _ _) (by rfl)) (by simp [Value.oneCell']) (by omega) (by unfold maxLen; omega) hk4.size ?_
      intro ao1 cp1 w5 hown1 hgrow hat hnil
      have hk5 := hk4.grown hgrow (fun k h => .inr (own_ge hownX h))
      refine hK _ _ ⟨(hk5).cell d6 (by simp), (hk5).cell dl0 (by simp), (hk5).cell dl1 (by simp), (hk5).cell z0 (by simp), (hk5).cell z1 (by simp), (hk5).cell z2 (by simp), (hk5).cell z3 (by simp)⟩ ?_
      clear hK K
      try simp only [Act.put, List.setIfInBounds_toArray, List.set_cons_zero, List.set_cons_succ, List.getElem_toArray, List.getElem_cons_succ, List.getElem_cons_zero]
      refine wpT_last rfl (by rfl) (fun K hK => ?_)
      go_simp
      have hky := hkk.then hk5
      refine (HIY.out _ d _ (HG.out.keep hky) (HO1.out.keep hky (by simp)) (HTY.out.keep hky)).mono ?_
      rintro e w6 ⟨⟨ao2, q2, cp2, rfl, hq2, hown2⟩, hk6⟩
      obtain rfl : n2 = q2 := HN2.out.symm.trans hq2
      have hk7 := hk5.then hk6
      have hownK := own_kept hown1 hk6 (by simp)
      refine hK _ _ ?_
      clear hK K
      try simp only [Act.put, List.setIfInBounds_toArray, List.set_cons_zero, List.set_cons_succ, List.getElem_toArray, List.getElem_cons_succ, List.getElem_cons_zero]
      refine wpT_last rfl (by rfl) (fun K hK => ?_)
      refine wp_append_any rtTok _ _ (by rfl) wk.heap.size (.slice ao1 (n + 1) cp1) (n + 1) _ (by rfl) hownK _ n2 (rowOf (y.toks false)) (by rfl) (SlC.of_own hown2) (rowOf_one _) (by omega) (by unfold maxLen; omega) hk7.size ?_
      intro ao1' cp1' w9 hown9 hgrow9 hat9 hnil9
      have hk9 := hkk.then (hk7.grown hgrow9 (fun k h => .inr (own_ge hownK h)))
      refine hK _ _ ?_
      clear hK K
      try simp only [Act.put, List.setIfInBounds_toArray, List.set_cons_zero, List.set_cons_succ, List.getElem_toArray, List.getElem_cons_succ, List.getElem_cons_zero]
      repeat (first
        | (refine wpT_pure (v := ?_) rfl (by rfl) ?_ ?_
           rotate_left 1
           · (intro w; go_simp; try with_reducible rfl)
           try simp only [Act.put, List.setIfInBounds_toArray, List.set_cons_zero, List.set_cons_succ, List.getElem_toArray, List.getElem_cons_succ, List.getElem_cons_zero]))
      refine wpT_done ?_
      have HO : Hid (w9.ownsRow w.heap.size 91 4 (.slice ao1' (n + 1 + n2) cp1') (n + 1 + n2) (rowOf (x.toks false ++ midT p.kind :: y.toks false))) := Lib.hid (by rw [HMid.out]; simpa [rowOf, wordT, signT] using own_mono hown9 hkk.size)
      have HK := Lib.hid hk9
      clear hown1 hgrow hat hnil hk9 hk7 hk6 hk5 hk4 hownK hown2 hown9 hgrow9 hat9 hnil9 hky hkx hown hk3
      clear hownX
      cases outer with
      | true =>
        go_wp2_with fail
        go_returns
        exact ⟨TokOut.of (by simp [Ex.toks, fenced, HN.out, HN2.out]; omega) HO.out, HK.out⟩
      | false =>
        have HSg := fun s w => Lib.hid (tokSign_any s w)
        go_wp2_with (first
          | (go_at_call 46; refine (HSg _ _).out.mono ?_; rintro e wa ⟨rfl, hka⟩)
          | (at_builtin
             first
              | (have hka1 := (HK.out.then hka).alloc (.cells #[.int .i64 4, .string ⟨#[40]⟩, .int .i64 0, .int .i64 0] 91 (0, 0))
                 have hla := own_kept HO.out (hka.alloc (.cells #[.int .i64 4, .string ⟨#[40]⟩, .int .i64 0, .int .i64 0] 91 (0, 0))) (by simp)
                 refine list_append_any rtTok (by rfl) _ _ (by rfl) w.heap.size (.slice (some ⟨wa.heap.size, 0, none⟩) 1 1) 1 [.int .i64 4, .string ⟨#[40]⟩, .int .i64 0, .int .i64 0] (by rfl) (own_mono (own_new wa #[.int .i64 4, .string ⟨#[40]⟩, .int .i64 0, .int .i64 0] 91 4 1 rfl (by decide)) (HK.out.then hka).size) _ (n + 1 + n2) (rowOf (x.toks false ++ midT p.kind :: y.toks false)) (by rfl) (SlC.of_own hla) (rowOf_one _) (by omega) (by unfold maxLen; omega) hka1.size ?_
                 intro aob cpb wb hownb hgrowb _ _
                 have hkb := hka1.grown hgrowb (fun k h => .inr (by cases h; exact (HK.out.then hka).size))
                 have HOB := Lib.hid hownb
                 have HKB := Lib.hid hkb
                 clear hka hka1 hla hownb hgrowb hkb)
              | (have hka1 := (HKB.out.then hka).alloc (.cells #[.int .i64 4, .string ⟨#[41]⟩, .int .i64 0, .int .i64 0] 91 (0, 0))
                 refine list_append_any rtTok (by rfl) _ _ (by rfl) w.heap.size (.slice aob (1 + (n + 1 + n2)) cpb) (1 + (n + 1 + n2)) _ (by rfl) (own_kept HOB.out (hka.alloc _) (by simp)) (.slice (some ⟨wa.heap.size, 0, none⟩) 1 1) 1 [.int .i64 4, .string ⟨#[41]⟩, .int .i64 0, .int .i64 0] (by rfl) (SlC.of_block (cs := #[.int .i64 4, .string ⟨#[41]⟩, .int .i64 0, .int .i64 0]) (t := 91) (fr := (0, 0)) (heap_alloc_new _ _) (by rfl)) (by simp [Value.oneCell']) (by omega) (by unfold maxLen; omega) hka1.size ?_
                 intro aoc cpc wc hownc hgrowc _ _
                 have hkc := hka1.grown hgrowc (fun k h => .inr (own_ge HOB.out h))
                 have HOC := Lib.hid hownc
                 have HKC := Lib.hid hkc
                 clear hka hka1 hownc hgrowc hkc)))
        go_returns
        exact ⟨TokOut.of (by simp [Ex.toks, fenced, HN.out, HN2.out]; omega) (by have h := HOC.out; simpa [Ex.toks, fenced, rowOf, signT, bOpen, bShut] using h), HKC.out⟩
    · skip
      go_simp
      have hk2 := hdk.alloc (.cells #[.int .i64 4, .string sg, .int .i64 0, .int .i64 0] 91 (0, 0))
      refine hK _ _ ⟨(hk2).cell d6 (by simp), (hk2).cell dl0 (by simp), (hk2).cell dl1 (by simp), (hk2).cell z0 (by simp), (hk2).cell z1 (by simp), (hk2).cell z2 (by simp), (hk2).cell z3 (by simp)⟩ ?_
      clear hK K
      try simp only [Act.put, List.setIfInBounds_toArray, List.set_cons_zero, List.set_cons_succ, List.getElem_toArray, List.getElem_cons_succ, List.getElem_cons_zero]
      refine wpT_step rfl (by rfl) (fun K hK => ?_)
      go_simp
      have hkx := hkk.then hk2
      refine (HIX.out _ b _ (HG.out.keep hkx) (HO1.out.keep hkx (by simp)) (HTX.out.keep hkx)).mono ?_
      rintro e w3 ⟨⟨ao, q, cp, rfl, hq, hown⟩, hk3⟩
      obtain rfl : n = q := HN.out.symm.trans hq
      have hbl := hk3.heap (heap_alloc_new wk.drew (.cells #[.int .i64 4, .string sg, .int .i64 0, .int .i64 0] 91 (0, 0))) (by simp)
      have hk3 : Keeps [] wk w3 := (hk2).then hk3
      refine hK _ _ ⟨(hk3).cell d6 (by simp), (hk3).cell dl0 (by simp), (hk3).cell dl1 (by simp), (hk3).cell z0 (by simp), (hk3).cell z1 (by simp), (hk3).cell z2 (by simp), (hk3).cell z3 (by simp)⟩ ?_
      clear hK K
      try simp only [Act.put, List.setIfInBounds_toArray, List.set_cons_zero, List.set_cons_succ, List.getElem_toArray, List.getElem_cons_succ, List.getElem_cons_zero]
      refine wpT_step rfl (by rfl) (fun K hK => ?_)
      have hownX := own_mono hown hk2.size
      have hk4 := hk3
      refine wp_append_any rtTok _ _ (by rfl) wk.heap.size (.slice ao n cp) n (rowOf (x.toks false)) (by rfl) hownX (.slice (some ⟨wk.heap.size, 0, none⟩) 1 1) 1 [.int .i64 4, .string sg, .int .i64 0, .int .i64 0] (by rfl) (SlC.of_block (cs := #[.int .i64 4, .string sg, .int .i64 0, .int .i64 0]) (t := 91) (fr := (0, 0)) hbl (by rfl)) (by simp [Value.oneCell']) (by omega) (by unfold maxLen; omega) hk4.size ?_
      intro ao1 cp1 w5 hown1 hgrow hat hnil
      have hk5 := hk4.grown hgrow (fun k h => .inr (own_ge hownX h))
      refine hK _ _ ⟨(hk5).cell d6 (by simp), (hk5).cell dl0 (by simp), (hk5).cell dl1 (by simp), (hk5).cell z0 (by simp), (hk5).cell z1 (by simp), (hk5).cell z2 (by simp), (hk5).cell z3 (by simp)⟩ ?_
      clear hK K
      try simp only [Act.put, List.setIfInBounds_toArray, List.set_cons_zero, List.set_cons_succ, List.getElem_toArray, List.getElem_cons_succ, List.getElem_cons_zero]
      refine wpT_last rfl (by rfl) (fun K hK => ?_)
      go_simp
      have hky := hkk.then hk5
      refine (HIY.out _ d _ (HG.out.keep hky) (HO1.out.keep hky (by simp)) (HTY.out.keep hky)).mono ?_
      rintro e w6 ⟨⟨ao2, q2, cp2, rfl, hq2, hown2⟩, hk6⟩
      obtain rfl : n2 = q2 := HN2.out.symm.trans hq2
      have hk7 := hk5.then hk6
      have hownK := own_kept hown1 hk6 (by simp)
      refine hK _ _ ?_
      clear hK K
      try simp only [Act.put, List.setIfInBounds_toArray, List.set_cons_zero, List.set_cons_succ, List.getElem_toArray, List.getElem_cons_succ, List.getElem_cons_zero]
      refine wpT_last rfl (by rfl) (fun K hK => ?_)
      refine wp_append_any rtTok _ _ (by rfl) wk.heap.size (.slice ao1 (n + 1) cp1) (n + 1) _ (by rfl) hownK _ n2 (rowOf (y.toks false)) (by rfl) (SlC.of_own hown2) (rowOf_one _) (by omega) (by unfold maxLen; omega) hk7.size ?_
      intro ao1' cp1' w9 hown9 hgrow9 hat9 hnil9
      have hk9 := hkk.then (hk7.grown hgrow9 (fun k h => .inr (own_ge hownK h)))
      refine hK _ _ ?_
      clear hK K
      try simp only [Act.put, List.setIfInBounds_toArray, List.set_cons_zero, List.set_cons_succ, List.getElem_toArray, List.getElem_cons_succ, List.getElem_cons_zero]
      repeat (first
        | (refine wpT_pure (v := ?_) rfl (by rfl) ?_ ?_
           rotate_left 1
           · (intro w; go_simp; try with_reducible rfl)
           try simp only [Act.put, List.setIfInBounds_toArray, List.set_cons_zero, List.set_cons_succ, List.getElem_toArray, List.getElem_cons_succ, List.getElem_cons_zero]))
      refine wpT_done ?_
      have HO : Hid (w9.ownsRow w.heap.size 91 4 (.slice ao1' (n + 1 + n2) cp1') (n + 1 + n2) (rowOf (x.toks false ++ midT p.kind :: y.toks false))) := Lib.hid (by rw [HMid.out]; simpa [rowOf, wordT, signT] using own_mono hown9 hkk.size)
      have HK := Lib.hid hk9
      clear hown1 hgrow hat hnil hk9 hk7 hk6 hk5 hk4 hownK hown2 hown9 hgrow9 hat9 hnil9 hky hkx hown hk3
      clear hownX hbl hk2
      cases outer with
      | true =>
        go_wp2_with fail
        go_returns
        exact ⟨TokOut.of (by simp [Ex.toks, fenced, HN.out, HN2.out]; omega) HO.out, HK.out⟩
      | false =>
        have HSg := fun s w => Lib.hid (tokSign_any s w)
        go_wp2_with (first
          | (go_at_call 46; refine (HSg _ _).out.mono ?_; rintro e wa ⟨rfl, hka⟩)
          | (at_builtin
             first
              | (have hka1 := (HK.out.then hka).alloc (.cells #[.int .i64 4, .string ⟨#[40]⟩, .int .i64 0, .int .i64 0] 91 (0, 0))
                 have hla := own_kept HO.out (hka.alloc (.cells #[.int .i64 4, .string ⟨#[40]⟩, .int .i64 0, .int .i64 0] 91 (0, 0))) (by simp)
                 refine list_append_any rtTok (by rfl) _ _ (by rfl) w.heap.size (.slice (some ⟨wa.heap.size, 0, none⟩) 1 1) 1 [.int .i64 4, .string ⟨#[40]⟩, .int .i64 0, .int .i64 0] (by rfl) (own_mono (own_new wa #[.int .i64 4, .string ⟨#[40]⟩, .int .i64 0, .int .i64 0] 91 4 1 rfl (by decide)) (HK.out.then hka).size) _ (n + 1 + n2) (rowOf (x.toks false ++ midT p.kind :: y.toks false)) (by rfl) (SlC.of_own hla) (rowOf_one _) (by omega) (by unfold maxLen; omega) hka1.size ?_
                 intro aob cpb wb hownb hgrowb _ _
                 have hkb := hka1.grown hgrowb (fun k h => .inr (by cases h; exact (HK.out.then hka).size))
                 have HOB := Lib.hid hownb
                 have HKB := Lib.hid hkb
                 clear hka hka1 hla hownb hgrowb hkb)
              | (have hka1 := (HKB.out.then hka).alloc (.cells #[.int .i64 4, .string ⟨#[41]⟩, .int .i64 0, .int .i64 0] 91 (0, 0))
                 refine list_append_any rtTok (by rfl) _ _ (by rfl) w.heap.size (.slice aob (1 + (n + 1 + n2)) cpb) (1 + (n + 1 + n2)) _ (by rfl) (own_kept HOB.out (hka.alloc _) (by simp)) (.slice (some ⟨wa.heap.size, 0, none⟩) 1 1) 1 [.int .i64 4, .string ⟨#[41]⟩, .int .i64 0, .int .i64 0] (by rfl) (SlC.of_block (cs := #[.int .i64 4, .string ⟨#[41]⟩, .int .i64 0, .int .i64 0]) (t := 91) (fr := (0, 0)) (heap_alloc_new _ _) (by rfl)) (by simp [Value.oneCell']) (by omega) (by unfold maxLen; omega) hka1.size ?_
                 intro aoc cpc wc hownc hgrowc _ _
                 have hkc := hka1.grown hgrowc (fun k h => .inr (own_ge HOB.out h))
                 have HOC := Lib.hid hownc
                 have HKC := Lib.hid hkc
                 clear hka hka1 hownc hgrowc hkc)))
        go_returns
        exact ⟨TokOut.of (by simp [Ex.toks, fenced, HN.out, HN2.out]; omega) (by have h := HOC.out; simpa [Ex.toks, fenced, rowOf, signT, bOpen, bShut] using h), HKC.out⟩

end Go.Proofs.YtefcmijobbgpbaaGreatDoor
