/- The reader: which operation of a level stands there. Conditions: those of each theorem. -/
import Derived.Test.YtefcmijobbgpbaaGreatDoorExT
import Derived.Laws.EntriesVeiled
namespace Go.Proofs.YtefcmijobbgpbaaGreatDoor
open Go.RowKit

theorem ret_row_val {P : Program} {fn : Func} {R : Ending → World → Prop} {a : Act} {w : World} {p u : Tmp} {ty : TypeId} (h : fn.results = #[.cell p ty, .tmp u]) (g : Nat) (t : TypeId) (cs : Array Value) (fr : Nat × Nat) (d : TypeDesc)
    (hp : a.tmps.getD p undef = .pointer (some ⟨g, 0, none⟩)) (hg : w.heap[g]? = some (.cells cs t fr))
    (hu : P.underlying ty = some d) (hd : (match d with | .struct _ | .array _ _ => true | _ => false) = true) (hi : (P.info? ty).map (·.size) = some cs.size) (hdf : a.defers = [])
    (hR : R (.returned (.tuple #[.agg cs, a.tmps.getD u undef])) w) : bodyPost P fn R .ret a w := by
  refine bodyPost_ret (v := .tuple #[.agg cs, a.tmps.getD u undef]) ?_ hdf hR
  have hp' : a.tmps[p]?.getD undef = .pointer (some ⟨g, 0, none⟩) := by simpa using hp
  simp [results, h, hp', asAddr, run_loadVar_row w g t ty cs fr d hg hu hd hi]

/-- What infix answers. -/
def InfOut (n : Int) (t : TokR) (e : Ending) : Prop :=
  (infixM n t = none ∧ e = .returned (.tuple #[.agg #[.string ⟨#[]⟩, .int .i64 0, .int .i64 0, .int .i64 0, .int .i64 0, .int .i64 0, .nilFunc], .bool false])) ∨
    ∃ (sg : ByteArray) (kd lv o1 o2 is_ : Int) (fq : FuncId), infixM n t = some kd ∧ e = .returned (.tuple #[.agg #[.string sg, .int .i64 kd, .int .i64 lv, .int .i64 o1, .int .i64 o2, .int .i64 is_, .func (.func fq) #[] #[]], .bool true])

theorem opsL_kind (j : Nat) (hj : j < 9) : (opsL.getD j ⟨⟨#[]⟩, 0, 0, 0, 0, 0⟩).kind = 4 + (j : Int) := by
  have hc : j = 0 ∨ j = 1 ∨ j = 2 ∨ j = 3 ∨ j = 4 ∨ j = 5 ∨ j = 6 ∨ j = 7 ∨ j = 8 := by omega
  rcases hc with rfl | rfl | rfl | rfl | rfl | rfl | rfl | rfl | rfl <;> rfl

theorem infix_step (n : Int) (t : TokR) (j : Nat) (hj : j < 9) : infixFrom n t (opsL.drop j) =
    if (opsL.getD j ⟨⟨#[]⟩, 0, 0, 0, 0, 0⟩).level = n ∧ t.kind = (if (opsL.getD j ⟨⟨#[]⟩, 0, 0, 0, 0, 0⟩).of_ = 3 then 1 else 4) ∧ t.s.data.toList = (opsL.getD j ⟨⟨#[]⟩, 0, 0, 0, 0, 0⟩).sign.data.toList then some (4 + (j : Int)) else infixFrom n t (opsL.drop (j + 1)) := by
  have hl : opsL.length = 9 := rfl
  have h1 : opsL.drop j = opsL.getD j ⟨⟨#[]⟩, 0, 0, 0, 0, 0⟩ :: opsL.drop (j + 1) := by
    rw [List.drop_eq_getElem_cons (by omega), List.getD_eq_getElem?_getD, List.getElem?_eq_getElem (by omega)]
    rfl
  rw [h1, infixFrom, opsL_kind j hj]

set_option maxHeartbeats 8000000 in
set_option maxRecDepth 100000 in
theorem infix_any {W w : World} {R bk o n cap O k deep : Nat} {l : List TokR} (c : RdCtx W R bk o n cap O l) (hk : Keeps [] W w) (hr : RdAt w R bk o n cap O k deep) (h : k < n) (L : Int) :
    Calls Tryz.prog 109 #[.pointer (some ⟨R, 0, none⟩), .int .i64 L] w fun e w' => InfOut L (tokAt l k) e ∧ Keeps [] w w' := by
  have hk0 := Keeps.refl [] w
  have HNow := fun w hk hr h => Lib.hid (now_any (W := W) (w := w) (k := k) (deep := deep) c hk hr h)
  have HR := Lib.hid hr
  have HK := Lib.hid hk
  have HL := Lib.hid h
  have HO := Lib.hid c.ops
  simp only [tokAgg_eq] at HNow
  generalize tokAt l k = t at *
  obtain ⟨tk, ts, tn, ta⟩ := t
  have hka := hk0.alloc (.cells #[.string ⟨#[]⟩, .int .i64 0, .int .i64 0, .int .i64 0, .int .i64 0, .int .i64 0, .nilFunc] 105 (0, 0))
  have hT4 := heap_alloc_new w (.cells #[.string ⟨#[]⟩, .int .i64 0, .int .i64 0, .int .i64 0, .int .i64 0, .int .i64 0, .nilFunc] 105 (0, 0))
  clear c hk hr h
  go_enter Tryz.func109, Tryz.ntmps109
  go_wp2_with fail
  refine (HNow _ (HK.out.then hka) (HR.out.keep hka) HL.out).out.mono ?_
  rintro e w2 ⟨rfl, hk2⟩
  have hkb := (hka.then hk2).alloc (.cells #[.int .i64 tk, .string ts, .int .i64 tn, .int .i64 ta] 91 (0, 0))
  have hT6 := heap_alloc_new w2 (.cells #[.int .i64 tk, .string ts, .int .i64 tn, .int .i64 ta] 91 (0, 0))
  have hT4b := alloc_old (hk2.heap hT4 (by simp)) (.cells #[.int .i64 tk, .string ts, .int .i64 tn, .int .i64 ta] 91 (0, 0))
  have hR2 := HR.out.keep hkb
  obtain ⟨_, _, _, r3, _, _⟩ := rd_cells hR2
  clear hka hT4
  go_wp2_with fail
  have HT4 := Lib.hid hT4b
  have HT6 := Lib.hid hT6
  obtain ⟨T6, hT6e⟩ : ∃ T6, T6 = w2.heap.size := ⟨_, rfl⟩
  have hw26 : w.heap.size ≤ T6 ∧ w.heap.size ≠ T6 := by have := hk2.size; simp at this; omega
  obtain ⟨w1, hw1⟩ : ∃ w1, w1 = w2.alloc (.cells #[.int .i64 tk, .string ts, .int .i64 tn, .int .i64 ta] 91 (0, 0)) := ⟨_, rfl⟩
  have hw1s : T6 < w1.heap.size := by rw [hw1, hT6e]; simp
  rw [← hw1, ← hT6e] at HT6
  rw [← hw1] at HT4 hkb
  rw [← hw1, ← hT6e]
  clear hT4b hT6 hR2 r3 hk2 hw1 hT6e HNow
  go_loopw [17] (fun i wr => ∃ j : Nat, j ≤ 9 ∧ i = .int .i64 j ∧ Hid (infixM L ⟨tk, ts, tn, ta⟩ = infixFrom L ⟨tk, ts, tn, ta⟩ (opsL.drop j)) ∧ Keeps [] w1 wr) (fun i _ => 9 - (intOf i).toNat)
  case atStart => exact ⟨0, Nat.zero_le _, rfl, Lib.hid rfl, Keeps.refl [] w1⟩
  case round =>
    obtain ⟨j, hj9, rfl, hI, hk⟩ := hrel
    by_cases hlt : j < 9
    · have d1 : decide ((j : Int) < 9) = true := by simp; omega
      have HST := Lib.hid (infix_step L ⟨tk, ts, tn, ta⟩ j hlt)
      obtain ⟨c0, c1, c2, c3, c4, c5, c6⟩ := ops_cells (HO.out.keep (HK.out.then (hkb.then hk)) (by simp)) j hlt
      generalize opsL.getD j ⟨⟨#[]⟩, 0, 0, 0, 0, 0⟩ = o at *
      generalize opFn j = fq at *
      obtain ⟨osg, okd, olv, oof, oot, ois⟩ := o
      simp only at c0 c1 c2 c3 c4 c5 HST
      have hb6 := hk.heap HT6.out (by simp)
      have hb4 := hk.heap HT4.out (by simp)
      have hka := (Keeps.refl [] wr).alloc (.cells #[.string osg, .int .i64 (4 + (j : Int)), .int .i64 olv, .int .i64 oof, .int .i64 oot, .int .i64 ois, .func (.func fq) #[] #[]] 105 (0, 0))
      have hb6a := hka.heap hb6 (by simp)
      have hb4a := hka.heap hb4 (by simp)
      obtain ⟨z0, z1, z2, z3, _, _, _, _⟩ := tok_block hb6a
      clear hb6 hb4 hb6a
      by_cases h1 : olv = L
      · have d2 : (olv == L) = true := by rw [h1]; simp
        by_cases h2 : oof = 3
        · have d3 : (oof == 3) = true := by rw [h2]; rfl
          by_cases h3 : tk = 1
          · have d4 : (tk == 1) = true := by rw [h3]; rfl
            by_cases h4 : ts.toList = osg.toList
            · have d5 : (ts.toList == osg.toList) = true := by rw [h4]; simp
              have d6 : (osg.toList == ts.toList) = true := by rw [h4]; simp
              have HNX := Lib.hid (HST.out.trans (if_pos (by simp only [← ByteArray.toList_eq]; exact ⟨h1, by rw [if_pos h2]; exact h3, h4⟩)))
              clear HST h1 h2 h3 h4
              go_wp2_with (refine wpList_store_row (by rfl) _ _ _ (by rfl) w.heap.size _ (by rfl) (by rfl) 105 #[.string ⟨#[]⟩, .int .i64 0, .int .i64 0, .int .i64 0, .int .i64 0, .int .i64 0, .nilFunc] hb4a (by kernel_rfl) (by rfl) (by simp [Value.oneCell']) ?_)
              refine ret_row_val rfl w.heap.size _ _ _ _ rfl (setRow_heap _ _ _ _ _ _ hb4a) Tryz.underlying105 rfl (by kernel_rfl) rfl ?_
              refine ⟨.inr ⟨_, _, _, _, _, _, _, hI.out.trans HNX.out, rfl⟩, ?_⟩
              exact ((hkb.then hk).then hka).setRow (.inr (Nat.le_refl _)) _
            · have d5 : (ts.toList == osg.toList) = false := by rw [beq_eq_false_iff_ne]; exact h4
              have d6 : (osg.toList == ts.toList) = false := by rw [beq_eq_false_iff_ne]; exact fun e => h4 e.symm
              have HNX := Lib.hid (HST.out.trans (if_neg (by simp only [← ByteArray.toList_eq]; exact fun h => h4 h.2.2)))
              clear HST h1 h2 h3 h4
              go_wp2_with fail
              exact ⟨⟨j + 1, by omega, by simp, Lib.hid (hI.out.trans HNX.out), hk.then hka⟩, by simp only [intOf]; omega⟩
          · have d4 : (tk == 1) = false := by rw [beq_eq_false_iff_ne]; exact h3
            have HNX := Lib.hid (HST.out.trans (if_neg (by intro h; have h5 := h.2.1; rw [if_pos h2] at h5; exact h3 h5)))
            clear HST h1 h2 h3
            go_wp2_with fail
            exact ⟨⟨j + 1, by omega, by simp, Lib.hid (hI.out.trans HNX.out), hk.then hka⟩, by simp only [intOf]; omega⟩
        · have d3 : (oof == 3) = false := by rw [beq_eq_false_iff_ne]; exact h2
          by_cases h3 : tk = 4
          · have d4 : (tk == 4) = true := by rw [h3]; rfl
            by_cases h4 : ts.toList = osg.toList
            · have d5 : (ts.toList == osg.toList) = true := by rw [h4]; simp
              have d6 : (osg.toList == ts.toList) = true := by rw [h4]; simp
              have HNX := Lib.hid (HST.out.trans (if_pos (by simp only [← ByteArray.toList_eq]; exact ⟨h1, by rw [if_neg h2]; exact h3, h4⟩)))
              clear HST h1 h2 h3 h4
              go_wp2_with (refine wpList_store_row (by rfl) _ _ _ (by rfl) w.heap.size _ (by rfl) (by rfl) 105 #[.string ⟨#[]⟩, .int .i64 0, .int .i64 0, .int .i64 0, .int .i64 0, .int .i64 0, .nilFunc] hb4a (by kernel_rfl) (by rfl) (by simp [Value.oneCell']) ?_)
              refine ret_row_val rfl w.heap.size _ _ _ _ rfl (setRow_heap _ _ _ _ _ _ hb4a) Tryz.underlying105 rfl (by kernel_rfl) rfl ?_
              refine ⟨.inr ⟨_, _, _, _, _, _, _, hI.out.trans HNX.out, rfl⟩, ?_⟩
              exact ((hkb.then hk).then hka).setRow (.inr (Nat.le_refl _)) _
            · have d5 : (ts.toList == osg.toList) = false := by rw [beq_eq_false_iff_ne]; exact h4
              have d6 : (osg.toList == ts.toList) = false := by rw [beq_eq_false_iff_ne]; exact fun e => h4 e.symm
              have HNX := Lib.hid (HST.out.trans (if_neg (by simp only [← ByteArray.toList_eq]; exact fun h => h4 h.2.2)))
              clear HST h1 h2 h3 h4
              go_wp2_with fail
              exact ⟨⟨j + 1, by omega, by simp, Lib.hid (hI.out.trans HNX.out), hk.then hka⟩, by simp only [intOf]; omega⟩
          · have d4 : (tk == 4) = false := by rw [beq_eq_false_iff_ne]; exact h3
            have HNX := Lib.hid (HST.out.trans (if_neg (by intro h; have h5 := h.2.1; rw [if_neg h2] at h5; exact h3 h5)))
            clear HST h1 h2 h3
            go_wp2_with fail
            exact ⟨⟨j + 1, by omega, by simp, Lib.hid (hI.out.trans HNX.out), hk.then hka⟩, by simp only [intOf]; omega⟩
      · have d2 : (olv == L) = false := by rw [beq_eq_false_iff_ne]; exact h1
        by_cases h2 : oof = 3
        · have d3 : (oof == 3) = true := by rw [h2]; rfl
          have HNX := Lib.hid (HST.out.trans (if_neg (by exact fun h => h1 h.1)))
          clear HST h1 h2
          go_wp2_with fail
          exact ⟨⟨j + 1, by omega, by simp, Lib.hid (hI.out.trans HNX.out), hk.then hka⟩, by simp only [intOf]; omega⟩
        · have d3 : (oof == 3) = false := by rw [beq_eq_false_iff_ne]; exact h2
          have HNX := Lib.hid (HST.out.trans (if_neg (by exact fun h => h1 h.1)))
          clear HST h1 h2
          go_wp2_with fail
          exact ⟨⟨j + 1, by omega, by simp, Lib.hid (hI.out.trans HNX.out), hk.then hka⟩, by simp only [intOf]; omega⟩
    · have hje : j = 9 := by omega
      have d1 : decide ((j : Int) < 9) = false := by simp; omega
      have hE : infixM L ⟨tk, ts, tn, ta⟩ = none := by rw [hI.out, hje]; rfl
      have HE := Lib.hid hE
      have hb4 := hk.heap HT4.out (by simp)
      clear hE hI hje
      go_wp2_with (refine wpList_store_row (by rfl) _ _ _ (by rfl) w.heap.size #[.string ⟨#[]⟩, .int .i64 0, .int .i64 0, .int .i64 0, .int .i64 0, .int .i64 0, .nilFunc] (by rfl) (by rfl) 105 #[.string ⟨#[]⟩, .int .i64 0, .int .i64 0, .int .i64 0, .int .i64 0, .int .i64 0, .nilFunc] hb4 (by kernel_rfl) (by rfl) (by simp [Value.oneCell']) ?_)
      refine ret_row_val rfl w.heap.size _ _ _ _ rfl (setRow_heap _ _ _ _ _ _ hb4) Tryz.underlying105 rfl (by kernel_rfl) rfl ?_
      refine ⟨.inl ⟨HE.out, rfl⟩, ?_⟩
      exact (hkb.then hk).setRow (.inr (Nat.le_refl _)) _

end Go.Proofs.YtefcmijobbgpbaaGreatDoor
