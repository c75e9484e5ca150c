/- ExprNeeds, walked. Conditions: those of each theorem. -/
import Derived.Test.YtefcmijobbgpbaaGreatDoorExNB
import Derived.Test.YtefcmijobbgpbaaGreatDoorExAR
import Derived.Deep.DeepCutAuto
namespace Go.Proofs.YtefcmijobbgpbaaGreatDoor
open Go.RowKit

set_option maxHeartbeats 8000000 in
set_option maxRecDepth 100000 in
theorem exprNeeds_any (x : List PartR) (ev : EvR) (last : List EvR) (vx vl : Value) (w : World) (hG : GlobX w) (hok : ∀ p ∈ x, p.ok) (hAx : ArgPart w vx x) (hAl : ArgEv w vl last) (hll : last.length * 80 ≤ 140737488355328) :
    Calls Tryz.prog 8 #[vx, .agg #[.string ev.key, .string ev.typ, .int .i64 ev.n0, .int .i64 ev.n1, .int .i64 ev.n2, .int .i64 ev.n3, .string ev.text], vl] w fun e w' => e = .returned (.bool true) ∧ Keeps [] w w' := by
  have hk0 := Keeps.refl [] w
  have HG := Lib.hid hG
  have HWk := fun w hG => Lib.hid (works_x w hG)
  have HAx := Lib.hid hAx
  have HAl := Lib.hid hAl
  have HLL := Lib.hid hll
  have HOK := Lib.hid hok
  have HT := fun w hG hA => Lib.hid (wholeLaw_any x vx w hG hok hA)
  have HSt := fun w hG hA => Lib.hid (stages_any x vx w hG hok hA)
  have HH := fun names last vn vl w hG hA hn hl => Lib.hid (holds_any x ev names last vx vn vl w hG hok hA hn hl)
  obtain ⟨o1, ho1⟩ : ∃ o1, o1 = Obj.cells (evRow ev) 37 (0, 0) := ⟨_, rfl⟩
  have hk1 := hk0.alloc o1
  have hb1 : (w.alloc o1).heap[w.heap.size]? = some o1 := heap_alloc_new w o1
  rw [ho1] at hb1
  have HB1 := Lib.hid hb1
  obtain ⟨aox, cpx, rfl, _, _⟩ := hAx
  obtain ⟨aol, cpl, rfl, _, hl2⟩ := hAl
  have HL2 := Lib.hid hl2
  obtain ⟨nx, hnx⟩ : ∃ n, x.length = n := ⟨_, rfl⟩
  obtain ⟨nl, hnl⟩ : ∃ n, last.length = n := ⟨_, rfl⟩
  rw [hnx] at HAx HT HSt HH ⊢
  rw [hnl] at HAl HLL ⊢
  have HNX := Lib.hid hnx
  have HNL := Lib.hid hnl
  subst ho1
  clear hG hok hb1 hnx hnl hll hl2
  go_enter Tryz.func8, Tryz.ntmps8
  go_wp2_with fail
  refine (HWk _ (HG.out.keep hk1)).out.mono ?_
  rintro e w2 ⟨rfl, hk2⟩
  have hk2' := hk1.then hk2
  go_wp2_with fail
  refine (HT _ (HG.out.keep hk2') (HAx.out.keep hk2')).out.mono ?_
  rintro e w3 ⟨rfl, hk3⟩
  have hk3' := hk2'.then hk3
  cases hx : truthM x with
  | false =>
    clear HWk HT HSt HH
    go_wp2_with fail
    go_returns
    exact ⟨rfl, hk3'⟩
  | true =>
    have HX := Lib.hid hx
    clear hx HWk HT
    go_wp2_with fail
    refine (HSt _ (HG.out.keep hk3') (HAx.out.keep hk3')).out.mono ?_
    rintro e w4 ⟨hs4, hk4⟩
    obtain ⟨t, hwx, hkx⟩ := truthM_some HX.out
    obtain ⟨aoL, n, cpL, rfl, hln, hownL⟩ := hs4.some_form hwx
    have hk4' := hk3'.then hk4
    have hevb := hk4.heap (hk3.heap (hk2.heap HB1.out (by simp)) (by simp)) (by simp)
    have HEV := Lib.hid hevb
    have HLN := Lib.hid hln
    have HOL := Lib.hid (own_strs hownL hln)
    have hn200 : n ≤ 200 := by
      have h1 := stagesFrom_len x []
      have h2 := truth_len HX.out
      have h3 : (stagesM x).length = (stagesFrom x []).length := rfl
      simp only [List.length_nil] at h1
      omega
    clear hs4 hwx hkx hownL hln HSt hk2 hk3 hk2' hk3' hevb HB1 hk4 hk1
    go_wp2_with fail
    go_loopw [9, 35] (fun v i wr => ∃ (k : Nat) (ao : Option Addr) (cp : Nat) (evs : List EvR), k ≤ n ∧ i = .int .i64 k ∧ v = .slice ao k cp ∧ Hid (evs.length = k ∧ wr.ownsRow w4.heap.size 37 7 (.slice ao k cp) k (evsRow evs)) ∧ Keeps [] w4 wr) (fun _ i _ => n - (intOf i).toNat)
    case atStart => exact ⟨0, none, 0, [], Nat.zero_le _, rfl, rfl, Lib.hid ⟨rfl, rfl, .inl ⟨rfl, rfl⟩⟩, Keeps.refl [] w4⟩
    case round =>
      obtain ⟨k, ao, cp, evs, hkn, rfl, rfl, hI, hk⟩ := hrel
      obtain ⟨e0, e1, e2, e3, e4, e5, e6⟩ := ev_block (hk.heap HEV.out (by simp))
      by_cases hlt : k < n
      · have d1 : decide ((k : Int) < (n : Int)) = true := by simp; omega
        by_cases hlt2 : k < nl
        · have d2 : decide ((k : Int) < (nl : Int)) = true := by simp; omega
          have b0 : (0 : Int) ≤ (k : Int) := by omega
          have b1 : (k : Int) < (nl : Int) := by omega
          obtain ⟨y, hy⟩ : ∃ y, last[k]? = some y := ⟨last[k]'(by rw [HNL.out]; omega), List.getElem?_eq_getElem _⟩
          obtain ⟨bk, o, hao, hsl, _, _⟩ := HL2.out (by intro e; rw [e] at hy; cases hy)
          subst hao
          obtain ⟨x0, x1, x2, x3, x4, x5, x6⟩ := hsl k y hy
          obtain ⟨yk, yt, y0, y1, y2, y3, yx⟩ := y
          simp only at x0 x1 x2 x3 x4 x5 x6
          have hkA' := (hk4'.then hk).alloc (.cells #[.string ev.key, .string ev.typ, .int .i64 ev.n0, .int .i64 ev.n1, .int .i64 ev.n2, .int .i64 ev.n3, .string ev.text] 37 (0, 0))
          have x0 := hkA'.cell x0 (by simp)
          have x1 := hkA'.cell x1 (by simp)
          have x2 := hkA'.cell x2 (by simp)
          have x3 := hkA'.cell x3 (by simp)
          have x4 := hkA'.cell x4 (by simp)
          have x5 := hkA'.cell x5 (by simp)
          have x6 := hkA'.cell x6 (by simp)
          clear hy hsl hkA'
          go_wp2_with (at_builtin; refine list_append_any rtEv (by rfl) _ _ (by rfl) w4.heap.size (.slice ao k cp) k (evsRow evs) (by rfl) (own_kept hI.out.2 (((Keeps.refl [] wr).alloc _).alloc _) (by simp)) _ 1 (evCells ⟨yk, yt, y0, y1, y2, y3, yx⟩) (by rfl) (SlC.of_block (cs := (evCells ⟨yk, yt, y0, y1, y2, y3, yx⟩).toArray) (t := 37) (fr := (0, 0)) (heap_top (k := wr.heap.size + 1) (by simp)) (by rfl)) (by simp [Value.oneCell', evCells]) (by omega) (by unfold maxLen; omega) ((hk.alloc _).alloc _).size ?_; intro ao1 cp1 w6 hown1 hgrow hat hnil; have hk3 := ((hk.alloc _).alloc _).grown hgrow (fun k h => .inr (own_ge hI.out.2 h)))
          refine ⟨⟨k + 1, ao1, cp1, evs ++ [⟨yk, yt, y0, y1, y2, y3, yx⟩], by omega, by simp, rfl, Lib.hid ⟨by simp [hI.out.1], ?_⟩, hk3⟩, by simp only [intOf]; omega⟩
          rw [evsRow_app]
          exact hown1
        · have d2 : decide ((k : Int) < (nl : Int)) = false := by simp; omega
          go_wp2_with (at_builtin; refine list_append_any rtEv (by rfl) _ _ (by rfl) w4.heap.size (.slice ao k cp) k (evsRow evs) (by rfl) (own_kept hI.out.2 (((Keeps.refl [] wr).alloc _).alloc _) (by simp)) _ 1 (evCells ev) (by rfl) (SlC.of_block (cs := (evCells ev).toArray) (t := 37) (fr := (0, 0)) (heap_top (k := wr.heap.size + 1) (by simp)) (by rfl)) (by simp [Value.oneCell', evCells]) (by omega) (by unfold maxLen; omega) ((hk.alloc _).alloc _).size ?_; intro ao1 cp1 w6 hown1 hgrow hat hnil; have hk3 := ((hk.alloc _).alloc _).grown hgrow (fun k h => .inr (own_ge hI.out.2 h)))
          refine ⟨⟨k + 1, ao1, cp1, evs ++ [ev], by omega, by simp, rfl, Lib.hid ⟨by simp [hI.out.1], ?_⟩, hk3⟩, by simp only [intOf]; omega⟩
          rw [evsRow_app]
          exact hown1
      · have hke : k = n := by omega
        subst hke
        have d1 : decide ((k : Int) < (k : Int)) = false := by simp
        go_wp2_with fail
        have HIw := Lib.hid hI.out.2
        refine (HH (stagesM x) evs _ _ wr (HG.out.keep (hk4'.then hk)) (HAx.out.keep (hk4'.then hk)) (HOL.out.keep hk) (own_evs hI.out.2 hI.out.1)).out.mono ?_
        rintro e w6 ⟨rfl, hk6⟩
        have hk6' := hk.then hk6
        have HE6 := Lib.hid (own_kept HIw.out hk6 (by simp))
        have hcode : holdsC x (stagesM x) evs = 0 := by rw [needs_code HX.out (by rw [HLN.out, hI.out.1]), miss_self]; rfl
        rw [hcode]
        obtain ⟨a, ha⟩ : ∃ a, holdsB x ev (stagesM x) evs = a := ⟨_, rfl⟩
        rw [ha]
        have HA := Lib.hid ha
        have HEL := Lib.hid hI.out.1
        clear hcode ha e0 e1 e2 e3 e4 e5 e6 hI hk hk6 HIw
        go_wp2_with fail
        have HZ := Lib.hid (holds_any x ev (bZzz :: stagesM x) (⟨⟨#[113]⟩, ⟨#[]⟩, 0, 0, 0, 0, ⟨#[]⟩⟩ :: evs) (.slice aox nx cpx))
        have hcz : holdsC x (bZzz :: stagesM x) (⟨⟨#[113]⟩, ⟨#[]⟩, 0, 0, 0, 0, ⟨#[]⟩⟩ :: evs) = 0 := by rw [needs_code HX.out (by simp [HLN.out, HEL.out]), miss_more]; rfl
        rw [hcz] at HZ
        obtain ⟨b, hb⟩ : ∃ b, holdsB x ev (bZzz :: stagesM x) (⟨⟨#[113]⟩, ⟨#[]⟩, 0, 0, 0, 0, ⟨#[]⟩⟩ :: evs) = b := ⟨_, rfl⟩
        rw [hb] at HZ
        have HB := Lib.hid hb
        clear hcz hb
        clear HH
        go_cut [14, 15] (fun v14 v15 wc => v14 = .bool b ∧ v15 = .int .i64 0 ∧ Keeps [] w6 wc)
        case first =>
          have hkD := hk6'.drew
          obtain ⟨e0, e1, e2, e3, e4, e5, e6⟩ := ev_block (hkD.heap HEV.out (by simp))
          refine wp_region_tree (fun W' => W'.cell? ⟨w.heap.size, 0, none⟩ = some (.string ev.key) ∧ W'.cell? ⟨w.heap.size, 1, none⟩ = some (.string ev.typ) ∧ W'.cell? ⟨w.heap.size, 2, none⟩ = some (.int .i64 ev.n0) ∧ W'.cell? ⟨w.heap.size, 3, none⟩ = some (.int .i64 ev.n1) ∧ W'.cell? ⟨w.heap.size, 4, none⟩ = some (.int .i64 ev.n2) ∧ W'.cell? ⟨w.heap.size, 5, none⟩ = some (.int .i64 ev.n3) ∧ W'.cell? ⟨w.heap.size, 6, none⟩ = some (.string ev.text)) [9] (.op 0 0 (.op 1 1 (.op 3 0 (.op 5 0 (.op 7 0 (.alt 2 (.alt 4 (.op 6 2 (.op 8 2 (.op 9 3 (.op 10 0 (.op 11 0 (.op 12 0 (.op 13 0 (.op 14 0 (.done))))))))) 6 (.op 4 2 (.op 8 2 (.op 9 3 (.op 10 0 (.op 11 0 (.op 12 0 (.op 13 0 (.op 14 0 (.done)))))))))) 6 (.op 2 2 (.op 4 2 (.op 8 2 (.op 9 3 (.op 10 0 (.op 11 0 (.op 12 0 (.op 13 0 (.op 14 0 (.done)))))))))))))))) (by kernel_rfl) (by kernel_rfl) (fun _ d _ _ _ h => by cases d <;> exact h) ⟨e0, e1, e2, e3, e4, e5, e6⟩ ?_
          repeat (first
            | (refine wpT_pure (v := ?_) rfl (by rfl) ?_ ?_
               rotate_left 1
               · (intro w; go_simp; try with_reducible rfl)
               try simp only [Act.put, List.setIfInBounds_toArray, List.set_cons_zero, List.set_cons_succ, List.getElem_toArray, List.getElem_cons_succ, List.getElem_cons_zero])
            | (refine wpT_held (v := ?_) rfl (by rfl) ?_ ?_
               rotate_left 1
               · (rintro w ⟨hs0, hs1, hs2, hs3, hs4, hs5, hs6⟩; go_simp; try with_reducible rfl)
               try simp only [Act.put, List.setIfInBounds_toArray, List.set_cons_zero, List.set_cons_succ, List.getElem_toArray, List.getElem_cons_succ, List.getElem_cons_zero]))
          obtain ⟨WD, hWD⟩ : ∃ WD, WD = w6.drew := ⟨_, rfl⟩
          have HE6 : Hid (WD.ownsRow w4.heap.size 37 7 (.slice ao k cp) k (evsRow evs)) := by rw [hWD]; exact Lib.hid (own_kept HE6.out (Keeps.refl [] w6).drew (by simp))
          have hkW : Keeps [] WD WD := Keeps.refl [] WD
          have hk6D : Keeps [] w6 WD := by rw [hWD]; exact (Keeps.refl [] w6).drew
          rw [← hWD] at hkD ⊢
          clear e0 e1 e2 e3 e4 e5 e6 hWD hk6'
          refine wpT_alt rfl rfl (by rfl) (by rfl) (fun K hK => ?_) (fun K hK => ?_)
          · skip
            go_simp
            refine hK _ _ (ev_block ((hkD.alloc (.cells #[.string ⟨#[122, 122, 122]⟩] 9 (0, 0))).heap HEV.out (by simp))) ?_
            clear hK K
            try simp only [Act.put, List.setIfInBounds_toArray, List.set_cons_zero, List.set_cons_succ, List.getElem_toArray, List.getElem_cons_succ, List.getElem_cons_zero]
            obtain ⟨V1, hV1⟩ : ∃ V, V = WD.alloc (.cells #[.string ⟨#[122, 122, 122]⟩] 9 (0, 0)) := ⟨_, rfl⟩
            have hkc1 : Keeps [] w4 V1 := by rw [hV1]; exact hkD.alloc _
            have hkw1 : Keeps [] WD V1 := by rw [hV1]; exact hkW.alloc _
            have hst1 : Keeps [] WD V1 := by rw [hV1]; exact (Keeps.refl [] _).alloc _
            have hN1 : V1.ownsRow WD.heap.size 9 1 (.slice (some ⟨WD.heap.size, 0, none⟩) 1 1) 1 (([bZzz]).map Value.string) := by rw [hV1]; exact own_mono (own_new WD #[.string ⟨#[122, 122, 122]⟩] 9 1 1 rfl (by decide)) hkW.size
            rw [← hV1]
            clear hV1
            refine wpT_alt rfl rfl (by rfl) (by rfl) (fun K hK => ?_) (fun K hK => ?_)
            · skip
              refine wp_append_any rtStr _ _ (by rfl) WD.heap.size (.slice (some ⟨WD.heap.size, 0, none⟩) 1 1) (1) (([bZzz]).map Value.string) (by rfl) hN1 _ (k) ((stagesM x).map Value.string) (by rfl) (by have := (HOL.out.keep hkc1).slc; rwa [HLN.out] at this) (strs_one _) (by omega) (by unfold maxLen; omega) hkw1.size ?_
              intro ao2 cp2 V2 hown2 hgrow2 hat2 _
              have hkw2 : Keeps [] WD V2 := hkw1.grown hgrow2 (fun k h => .inr (own_ge hN1 h))
              have hkc2 : Keeps [] w4 V2 := hkD.then hkw2
              have hown2 : V2.ownsRow WD.heap.size 9 1 (.slice ao2 ((1 + k)) cp2) ((1 + k)) (([bZzz] ++ stagesM x).map Value.string) := by rw [List.map_append]; exact hown2
              refine hK _ _ (ev_block ((hkc2).heap HEV.out (by simp))) ?_
              clear hK K
              try simp only [Act.put, List.setIfInBounds_toArray, List.set_cons_zero, List.set_cons_succ, List.getElem_toArray, List.getElem_cons_succ, List.getElem_cons_zero]
              refine wpT_step rfl (by rfl) (fun K hK => ?_)
              go_simp
              refine hK _ _ (ev_block ((hkc2.alloc (.cells #[.string ⟨#[113]⟩, .string ⟨#[]⟩, .int .i64 0, .int .i64 0, .int .i64 0, .int .i64 0, .string ⟨#[]⟩] 37 (0, 0))).heap HEV.out (by simp))) ?_
              clear hK K
              try simp only [Act.put, List.setIfInBounds_toArray, List.set_cons_zero, List.set_cons_succ, List.getElem_toArray, List.getElem_cons_succ, List.getElem_cons_zero]
              obtain ⟨V3, hV3⟩ : ∃ V, V = V2.alloc (.cells #[.string ⟨#[113]⟩, .string ⟨#[]⟩, .int .i64 0, .int .i64 0, .int .i64 0, .int .i64 0, .string ⟨#[]⟩] 37 (0, 0)) := ⟨_, rfl⟩
              have hkc3 : Keeps [] w4 V3 := by rw [hV3]; exact hkc2.alloc _
              have hkw3 : Keeps [] WD V3 := by rw [hV3]; exact hkw2.alloc _
              have hst3 : Keeps [] V2 V3 := by rw [hV3]; exact (Keeps.refl [] _).alloc _
              have hT3 : Two WD.heap.size V3 (.slice ao2 ((1 + k)) cp2) (.slice (some ⟨V2.heap.size, 0, none⟩) 1 1) (1 + k) 1 ([bZzz] ++ stagesM x) ([(⟨⟨#[113]⟩, ⟨#[]⟩, 0, 0, 0, 0, ⟨#[]⟩⟩ : EvR)]) := by rw [hV3]; exact Two.newE hown2 ([(⟨⟨#[113]⟩, ⟨#[]⟩, 0, 0, 0, 0, ⟨#[]⟩⟩ : EvR)]) 1 rfl (by decide) hkw2.size
              rw [← hV3]
              clear hV3
              refine wpT_step rfl (by rfl) (fun K hK => ?_)
              refine wp_append_any rtEv _ _ (by rfl) WD.heap.size (.slice (some ⟨V2.heap.size, 0, none⟩) 1 1) (1) (evsRow ([(⟨⟨#[113]⟩, ⟨#[]⟩, 0, 0, 0, 0, ⟨#[]⟩⟩ : EvR)])) (by rfl) hT3.e _ (k) (evsRow (evs)) (by rfl) (SlC.of_own (own_kept HE6.out hkw3 (by simp))) (evsRow_cell _) (by omega) (by unfold maxLen; omega) hkw3.size ?_
              intro ao4 cp4 V4 hown4 hgrow4 hat4 _
              have hkw4 : Keeps [] WD V4 := hkw3.grown hgrow4 (fun k h => .inr (own_ge hT3.e h))
              have hkc4 : Keeps [] w4 V4 := hkD.then hkw4
              have hown4 : V4.ownsRow WD.heap.size 37 7 (.slice ao4 ((1 + k)) cp4) ((1 + k)) (evsRow ([(⟨⟨#[113]⟩, ⟨#[]⟩, 0, 0, 0, 0, ⟨#[]⟩⟩ : EvR)] ++ evs)) := by rw [evsRow_app]; exact hown4
              have hT4 := hT3.growE hown4 hgrow4 hat4
              refine hK _ _ (ev_block ((hkc4).heap HEV.out (by simp))) ?_
              clear hK K
              try simp only [Act.put, List.setIfInBounds_toArray, List.set_cons_zero, List.set_cons_succ, List.getElem_toArray, List.getElem_cons_succ, List.getElem_cons_zero]
              refine wpT_last rfl (by rfl) (fun K hK => ?_)
              go_simp
              refine (HZ.out _ _ _ (HG.out.keep (hk4'.then hkc4)) HOK.out (HAx.out.keep (hk4'.then hkc4)) (own_strs hT4.n (by simp [HLN.out]; omega)) (own_evs hT4.e (by simp [HEL.out]; omega))).mono ?_
              rintro e w7 ⟨rfl, hk7⟩
              refine hK _ _ ?_
              clear hK K
              try simp only [Act.put, List.setIfInBounds_toArray, List.set_cons_zero, List.set_cons_succ, List.getElem_toArray, List.getElem_cons_succ, List.getElem_cons_zero]
              repeat (first
                | (refine wpT_pure (v := ?_) rfl (by rfl) ?_ ?_
                   rotate_left 1
                   · (intro w; go_simp; try with_reducible rfl)
                   try simp only [Act.put, List.setIfInBounds_toArray, List.set_cons_zero, List.set_cons_succ, List.getElem_toArray, List.getElem_cons_succ, List.getElem_cons_zero]))
              refine wpT_done ?_
              go_wp2_with fail
              go_meet
              exact ⟨rfl, rfl, hk6D.then (hkw4.then hk7)⟩
            · skip
              go_simp
              refine hK _ _ (ev_block ((hkc1.alloc (.cells #[.string ⟨#[113]⟩, .string ⟨#[]⟩, .int .i64 0, .int .i64 0, .int .i64 0, .int .i64 0, .string ⟨#[]⟩] 37 (0, 0))).heap HEV.out (by simp))) ?_
              clear hK K
              try simp only [Act.put, List.setIfInBounds_toArray, List.set_cons_zero, List.set_cons_succ, List.getElem_toArray, List.getElem_cons_succ, List.getElem_cons_zero]
              obtain ⟨V2, hV2⟩ : ∃ V, V = V1.alloc (.cells #[.string ⟨#[113]⟩, .string ⟨#[]⟩, .int .i64 0, .int .i64 0, .int .i64 0, .int .i64 0, .string ⟨#[]⟩] 37 (0, 0)) := ⟨_, rfl⟩
              have hkc2 : Keeps [] w4 V2 := by rw [hV2]; exact hkc1.alloc _
              have hkw2 : Keeps [] WD V2 := by rw [hV2]; exact hkw1.alloc _
              have hst2 : Keeps [] V1 V2 := by rw [hV2]; exact (Keeps.refl [] _).alloc _
              have hT2 : Two WD.heap.size V2 (.slice (some ⟨WD.heap.size, 0, none⟩) 1 1) (.slice (some ⟨V1.heap.size, 0, none⟩) 1 1) 1 1 ([bZzz]) ([(⟨⟨#[113]⟩, ⟨#[]⟩, 0, 0, 0, 0, ⟨#[]⟩⟩ : EvR)]) := by rw [hV2]; exact Two.newE hN1 ([(⟨⟨#[113]⟩, ⟨#[]⟩, 0, 0, 0, 0, ⟨#[]⟩⟩ : EvR)]) 1 rfl (by decide) hkw1.size
              rw [← hV2]
              clear hV2
              refine wpT_step rfl (by rfl) (fun K hK => ?_)
              refine wp_append_any rtStr _ _ (by rfl) WD.heap.size (.slice (some ⟨WD.heap.size, 0, none⟩) 1 1) (1) (([bZzz]).map Value.string) (by rfl) hT2.n _ (k) ((stagesM x).map Value.string) (by rfl) (by have := (HOL.out.keep hkc2).slc; rwa [HLN.out] at this) (strs_one _) (by omega) (by unfold maxLen; omega) hkw2.size ?_
              intro ao3 cp3 V3 hown3 hgrow3 hat3 _
              have hkw3 : Keeps [] WD V3 := hkw2.grown hgrow3 (fun k h => .inr (own_ge hT2.n h))
              have hkc3 : Keeps [] w4 V3 := hkD.then hkw3
              have hown3 : V3.ownsRow WD.heap.size 9 1 (.slice ao3 ((1 + k)) cp3) ((1 + k)) (([bZzz] ++ stagesM x).map Value.string) := by rw [List.map_append]; exact hown3
              have hT3 := hT2.growN hown3 hgrow3 hat3
              refine hK _ _ (ev_block ((hkc3).heap HEV.out (by simp))) ?_
              clear hK K
              try simp only [Act.put, List.setIfInBounds_toArray, List.set_cons_zero, List.set_cons_succ, List.getElem_toArray, List.getElem_cons_succ, List.getElem_cons_zero]
              refine wpT_step rfl (by rfl) (fun K hK => ?_)
              refine wp_append_any rtEv _ _ (by rfl) WD.heap.size (.slice (some ⟨V1.heap.size, 0, none⟩) 1 1) (1) (evsRow ([(⟨⟨#[113]⟩, ⟨#[]⟩, 0, 0, 0, 0, ⟨#[]⟩⟩ : EvR)])) (by rfl) hT3.e _ (k) (evsRow (evs)) (by rfl) (SlC.of_own (own_kept HE6.out hkw3 (by simp))) (evsRow_cell _) (by omega) (by unfold maxLen; omega) hkw3.size ?_
              intro ao4 cp4 V4 hown4 hgrow4 hat4 _
              have hkw4 : Keeps [] WD V4 := hkw3.grown hgrow4 (fun k h => .inr (own_ge hT3.e h))
              have hkc4 : Keeps [] w4 V4 := hkD.then hkw4
              have hown4 : V4.ownsRow WD.heap.size 37 7 (.slice ao4 ((1 + k)) cp4) ((1 + k)) (evsRow ([(⟨⟨#[113]⟩, ⟨#[]⟩, 0, 0, 0, 0, ⟨#[]⟩⟩ : EvR)] ++ evs)) := by rw [evsRow_app]; exact hown4
              have hT4 := hT3.growE hown4 hgrow4 hat4
              refine hK _ _ (ev_block ((hkc4).heap HEV.out (by simp))) ?_
              clear hK K
              try simp only [Act.put, List.setIfInBounds_toArray, List.set_cons_zero, List.set_cons_succ, List.getElem_toArray, List.getElem_cons_succ, List.getElem_cons_zero]
              refine wpT_last rfl (by rfl) (fun K hK => ?_)
              go_simp
              refine (HZ.out _ _ _ (HG.out.keep (hk4'.then hkc4)) HOK.out (HAx.out.keep (hk4'.then hkc4)) (own_strs hT4.n (by simp [HLN.out]; omega)) (own_evs hT4.e (by simp [HEL.out]; omega))).mono ?_
              rintro e w7 ⟨rfl, hk7⟩
              refine hK _ _ ?_
              clear hK K
              try simp only [Act.put, List.setIfInBounds_toArray, List.set_cons_zero, List.set_cons_succ, List.getElem_toArray, List.getElem_cons_succ, List.getElem_cons_zero]
              repeat (first
                | (refine wpT_pure (v := ?_) rfl (by rfl) ?_ ?_
                   rotate_left 1
                   · (intro w; go_simp; try with_reducible rfl)
                   try simp only [Act.put, List.setIfInBounds_toArray, List.set_cons_zero, List.set_cons_succ, List.getElem_toArray, List.getElem_cons_succ, List.getElem_cons_zero]))
              refine wpT_done ?_
              go_wp2_with fail
              go_meet
              exact ⟨rfl, rfl, hk6D.then (hkw4.then hk7)⟩
          · skip
            go_simp
            refine hK _ _ (ev_block ((hkD.alloc (.cells #[.string ⟨#[113]⟩, .string ⟨#[]⟩, .int .i64 0, .int .i64 0, .int .i64 0, .int .i64 0, .string ⟨#[]⟩] 37 (0, 0))).heap HEV.out (by simp))) ?_
            clear hK K
            try simp only [Act.put, List.setIfInBounds_toArray, List.set_cons_zero, List.set_cons_succ, List.getElem_toArray, List.getElem_cons_succ, List.getElem_cons_zero]
            obtain ⟨V1, hV1⟩ : ∃ V, V = WD.alloc (.cells #[.string ⟨#[113]⟩, .string ⟨#[]⟩, .int .i64 0, .int .i64 0, .int .i64 0, .int .i64 0, .string ⟨#[]⟩] 37 (0, 0)) := ⟨_, rfl⟩
            have hkc1 : Keeps [] w4 V1 := by rw [hV1]; exact hkD.alloc _
            have hkw1 : Keeps [] WD V1 := by rw [hV1]; exact hkW.alloc _
            have hst1 : Keeps [] WD V1 := by rw [hV1]; exact (Keeps.refl [] _).alloc _
            have hE1 : V1.ownsRow WD.heap.size 37 7 (.slice (some ⟨WD.heap.size, 0, none⟩) 1 1) 1 (evsRow ([(⟨⟨#[113]⟩, ⟨#[]⟩, 0, 0, 0, 0, ⟨#[]⟩⟩ : EvR)])) := by rw [hV1]; exact own_mono (own_new WD #[.string ⟨#[113]⟩, .string ⟨#[]⟩, .int .i64 0, .int .i64 0, .int .i64 0, .int .i64 0, .string ⟨#[]⟩] 37 7 1 rfl (by decide)) hkW.size
            rw [← hV1]
            clear hV1
            refine wpT_step rfl (by rfl) (fun K hK => ?_)
            go_simp
            refine hK _ _ (ev_block ((hkc1.alloc (.cells #[.string ⟨#[122, 122, 122]⟩] 9 (0, 0))).heap HEV.out (by simp))) ?_
            clear hK K
            try simp only [Act.put, List.setIfInBounds_toArray, List.set_cons_zero, List.set_cons_succ, List.getElem_toArray, List.getElem_cons_succ, List.getElem_cons_zero]
            obtain ⟨V2, hV2⟩ : ∃ V, V = V1.alloc (.cells #[.string ⟨#[122, 122, 122]⟩] 9 (0, 0)) := ⟨_, rfl⟩
            have hkc2 : Keeps [] w4 V2 := by rw [hV2]; exact hkc1.alloc _
            have hkw2 : Keeps [] WD V2 := by rw [hV2]; exact hkw1.alloc _
            have hst2 : Keeps [] V1 V2 := by rw [hV2]; exact (Keeps.refl [] _).alloc _
            have hT2 : Two WD.heap.size V2 (.slice (some ⟨V1.heap.size, 0, none⟩) 1 1) (.slice (some ⟨WD.heap.size, 0, none⟩) 1 1) 1 1 ([bZzz]) ([(⟨⟨#[113]⟩, ⟨#[]⟩, 0, 0, 0, 0, ⟨#[]⟩⟩ : EvR)]) := by rw [hV2]; exact Two.newN hE1 ([bZzz]) 1 rfl (by decide) hkw1.size
            rw [← hV2]
            clear hV2
            refine wpT_step rfl (by rfl) (fun K hK => ?_)
            refine wp_append_any rtStr _ _ (by rfl) WD.heap.size (.slice (some ⟨V1.heap.size, 0, none⟩) 1 1) (1) (([bZzz]).map Value.string) (by rfl) hT2.n _ (k) ((stagesM x).map Value.string) (by rfl) (by have := (HOL.out.keep hkc2).slc; rwa [HLN.out] at this) (strs_one _) (by omega) (by unfold maxLen; omega) hkw2.size ?_
            intro ao3 cp3 V3 hown3 hgrow3 hat3 _
            have hkw3 : Keeps [] WD V3 := hkw2.grown hgrow3 (fun k h => .inr (own_ge hT2.n h))
            have hkc3 : Keeps [] w4 V3 := hkD.then hkw3
            have hown3 : V3.ownsRow WD.heap.size 9 1 (.slice ao3 ((1 + k)) cp3) ((1 + k)) (([bZzz] ++ stagesM x).map Value.string) := by rw [List.map_append]; exact hown3
            have hT3 := hT2.growN hown3 hgrow3 hat3
            refine hK _ _ (ev_block ((hkc3).heap HEV.out (by simp))) ?_
            clear hK K
            try simp only [Act.put, List.setIfInBounds_toArray, List.set_cons_zero, List.set_cons_succ, List.getElem_toArray, List.getElem_cons_succ, List.getElem_cons_zero]
            refine wpT_step rfl (by rfl) (fun K hK => ?_)
            refine wp_append_any rtEv _ _ (by rfl) WD.heap.size (.slice (some ⟨WD.heap.size, 0, none⟩) 1 1) (1) (evsRow ([(⟨⟨#[113]⟩, ⟨#[]⟩, 0, 0, 0, 0, ⟨#[]⟩⟩ : EvR)])) (by rfl) hT3.e _ (k) (evsRow (evs)) (by rfl) (SlC.of_own (own_kept HE6.out hkw3 (by simp))) (evsRow_cell _) (by omega) (by unfold maxLen; omega) hkw3.size ?_
            intro ao4 cp4 V4 hown4 hgrow4 hat4 _
            have hkw4 : Keeps [] WD V4 := hkw3.grown hgrow4 (fun k h => .inr (own_ge hT3.e h))
            have hkc4 : Keeps [] w4 V4 := hkD.then hkw4
            have hown4 : V4.ownsRow WD.heap.size 37 7 (.slice ao4 ((1 + k)) cp4) ((1 + k)) (evsRow ([(⟨⟨#[113]⟩, ⟨#[]⟩, 0, 0, 0, 0, ⟨#[]⟩⟩ : EvR)] ++ evs)) := by rw [evsRow_app]; exact hown4
            have hT4 := hT3.growE hown4 hgrow4 hat4
            refine hK _ _ (ev_block ((hkc4).heap HEV.out (by simp))) ?_
            clear hK K
            try simp only [Act.put, List.setIfInBounds_toArray, List.set_cons_zero, List.set_cons_succ, List.getElem_toArray, List.getElem_cons_succ, List.getElem_cons_zero]
            refine wpT_last rfl (by rfl) (fun K hK => ?_)
            go_simp
            refine (HZ.out _ _ _ (HG.out.keep (hk4'.then hkc4)) HOK.out (HAx.out.keep (hk4'.then hkc4)) (own_strs hT4.n (by simp [HLN.out]; omega)) (own_evs hT4.e (by simp [HEL.out]; omega))).mono ?_
            rintro e w7 ⟨rfl, hk7⟩
            refine hK _ _ ?_
            clear hK K
            try simp only [Act.put, List.setIfInBounds_toArray, List.set_cons_zero, List.set_cons_succ, List.getElem_toArray, List.getElem_cons_succ, List.getElem_cons_zero]
            repeat (first
              | (refine wpT_pure (v := ?_) rfl (by rfl) ?_ ?_
                 rotate_left 1
                 · (intro w; go_simp; try with_reducible rfl)
                 try simp only [Act.put, List.setIfInBounds_toArray, List.set_cons_zero, List.set_cons_succ, List.getElem_toArray, List.getElem_cons_succ, List.getElem_cons_zero]))
            refine wpT_done ?_
            go_wp2_with fail
            go_meet
            exact ⟨rfl, rfl, hk6D.then (hkw4.then hk7)⟩
        case rest =>
        obtain ⟨rfl, rfl, hk7⟩ := hcut
        obtain ⟨w7, rfl⟩ : ∃ w7, w7 = wc := ⟨_, rfl⟩
        have hk7' := hk6'.then hk7
        have HE7 := Lib.hid (own_kept HE6.out hk7 (by simp))
        clear hk7
        go_wp2_with fail
        go_loopw [75] (fun i wr => ∃ j : Nat, j ≤ k ∧ i = .int .i64 j ∧ Hid (∀ s ∈ (stagesM x).take j, s.data.toList ≠ bZzz.data.toList) ∧ wr = w7) (fun i _ => k - (intOf i).toNat)
        case atStart => exact ⟨0, Nat.zero_le _, rfl, Lib.hid (by simp), rfl⟩
        case round =>
          obtain ⟨j, hjk, rfl, hI, rfl⟩ := hrel
          by_cases hlt : j < k
          · have c1 : decide ((j : Int) < (k : Int)) = true := by simp; omega
            have b0 : (0 : Int) ≤ (j : Int) := by omega
            have b1 : (j : Int) < (k : Int) := by omega
            obtain ⟨y, hy⟩ : ∃ y, (stagesM x)[j]? = some y := ⟨(stagesM x)[j]'(by rw [HLN.out]; omega), List.getElem?_eq_getElem _⟩
            obtain ⟨aoQ, cpQ, hvQ, _, hQ⟩ := HOL.out
            obtain ⟨bk, o, hao, hsl, _, _⟩ := hQ (by intro e; rw [e] at hy; cases hy)
            obtain ⟨rfl, _, rfl⟩ := Value.slice.inj hvQ
            clear hvQ
            subst hao
            have y0 := hk7'.cell (hsl j y hy) (by simp)
            have HY := Lib.hid hy
            clear hy hQ hsl
            go_wp2_with fail
            · go_returns
              exact ⟨rfl, hk4'.then hk7'⟩
            · refine ⟨⟨j + 1, by omega, by simp, Lib.hid ?_, trivial⟩, by simp only [intOf]; omega⟩
              have hne : ¬ y.toList = [122, 122, 122] := ne_of_beq_false (by assumption)
              rw [List.take_add_one, HY.out]
              intro s hs
              rcases List.mem_append.1 hs with hs | hs
              · exact hI.out s hs
              · simp at hs
                subst hs
                rw [← ByteArray.toList_eq]
                exact hne
          · have hjk2 : k = j := by omega
            subst hjk2
            have c1 : decide ((k : Int) < (k : Int)) = false := by simp
            have hall : ∀ s ∈ stagesM x, s.data.toList ≠ bZzz.data.toList := by
              have := hI.out
              rw [← HLN.out, List.take_length] at this
              exact this
            obtain rfl : b = a := by
              have := needs_more ev ⟨⟨#[113]⟩, ⟨#[]⟩, 0, 0, 0, 0, ⟨#[]⟩⟩ HX.out (last := evs) (by rw [HLN.out, HEL.out]) hall
              rw [HA.out, HB.out] at this
              exact this
            have hbb : (b != b) = false := by simp
            clear hall hI
            go_wp2_with fail
            have hkR : Keeps [] w4 wr := hk7'
            obtain ⟨W7, rfl⟩ : ∃ W7, W7 = wr := ⟨_, rfl⟩
            clear HA HB hbb
            go_loopw [101] (fun i wq => ∃ i' : Nat, i' ≤ k ∧ i = .int .i64 i' ∧ Keeps [] W7 wq) (fun i _ => k - (intOf i).toNat)
            case atStart => exact ⟨0, Nat.zero_le _, rfl, Keeps.refl [] W7⟩
            case round =>
              obtain ⟨i, hik, rfl, hq⟩ := hrel
              by_cases hlt : i < k
              · have c1 : decide ((i : Int) < (k : Int)) = true := by simp; omega
                have b0 : (0 : Int) ≤ (i : Int) := by omega
                have b1 : (i : Int) < (k : Int) := by omega
                have b2 : (i : Int) ≤ (k : Int) := by omega
                have b3 : (i : Int) + 1 ≤ (k : Int) := by omega
                have b4 : i ≤ 200 := by omega
                have wr1 : IntKind.i64.wrap ((i : Int) + 1) = (i : Int) + 1 := IntWalk.i64_in _ (by omega)
                have b7 : (0 : Int) ≤ (i : Int) + 1 := by omega
                obtain ⟨bk, o, haoL, hcL1, hcL2⟩ : ∃ bk o, aoL = some ⟨bk, o, none⟩ ∧ k ≤ cpL ∧ cpL ≤ 9223372036854775807 := by
                  obtain ⟨aoQ, cpQ, hvQ, _, hQ⟩ := HOL.out
                  obtain ⟨bk, o, hao, _, h1, h2⟩ := hQ (by intro e; have := HLN.out; rw [e] at this; simp at this; omega)
                  obtain ⟨rfl, h3, rfl⟩ := Value.slice.inj hvQ
                  exact ⟨bk, o, hao, by omega, h2⟩
                obtain ⟨bE, haoE, hcE1, hcE2⟩ : ∃ bE, ao = some ⟨bE, 0, none⟩ ∧ k ≤ cp ∧ cp ≤ 9223372036854775807 := by
                  rcases HE7.out.2 with ⟨he, h0⟩ | ⟨g, cap, cur, he, _, _, hnc, hm, _⟩
                  · omega
                  · obtain ⟨rfl, _, rfl⟩ := Value.slice.inj he
                    exact ⟨g, rfl, hnc, by unfold maxLen at hm; omega⟩
                have b5 : (i : Int) ≤ (cpL : Int) := by omega
                have b6 : (i : Int) ≤ (cp : Int) := by omega
                have b8 : (k : Int) ≤ (cpL : Int) := by omega
                have b9 : (k : Int) ≤ (cp : Int) := by omega
                subst haoL
                subst haoE
                have hkQ := hkR.then hq
                go_wp2_with fail
                go_cut [20] (fun v wc => v = .int .i64 5 ∧ Keeps [] W7 wc)
                case first =>
                  have hkD := hkQ.drew
                  obtain ⟨e0, e1, e2, e3, e4, e5, e6⟩ := ev_block (hkD.heap HEV.out (by simp))
                  refine wp_region_tree (fun W' => W'.cell? ⟨w.heap.size, 0, none⟩ = some (.string ev.key) ∧ W'.cell? ⟨w.heap.size, 1, none⟩ = some (.string ev.typ) ∧ W'.cell? ⟨w.heap.size, 2, none⟩ = some (.int .i64 ev.n0) ∧ W'.cell? ⟨w.heap.size, 3, none⟩ = some (.int .i64 ev.n1) ∧ W'.cell? ⟨w.heap.size, 4, none⟩ = some (.int .i64 ev.n2) ∧ W'.cell? ⟨w.heap.size, 5, none⟩ = some (.int .i64 ev.n3) ∧ W'.cell? ⟨w.heap.size, 6, none⟩ = some (.string ev.text)) [22] (.op 0 0 (.op 1 1 (.op 3 0 (.op 4 0 (.op 5 0 (.op 7 0 (.op 8 0 (.op 9 0 (.op 10 0 (.op 13 0 (.op 14 0 (.op 15 0 (.op 17 0 (.op 18 0 (.op 19 0 (.op 20 0 (.alt 2 (.alt 6 (.alt 11 (.op 12 2 (.op 16 2 (.op 21 2 (.op 22 3 (.op 23 0 (.op 24 0 (.op 25 0 (.op 26 0 (.op 27 0 (.done)))))))))) 12 (.op 11 2 (.op 16 2 (.op 21 2 (.op 22 3 (.op 23 0 (.op 24 0 (.op 25 0 (.op 26 0 (.op 27 0 (.done))))))))))) 12 (.op 6 2 (.op 11 2 (.op 16 2 (.op 21 2 (.op 22 3 (.op 23 0 (.op 24 0 (.op 25 0 (.op 26 0 (.op 27 0 (.done)))))))))))) 12 (.op 2 2 (.op 6 2 (.op 11 2 (.op 16 2 (.op 21 2 (.op 22 3 (.op 23 0 (.op 24 0 (.op 25 0 (.op 26 0 (.op 27 0 (.done))))))))))))))))))))))))))))) (by kernel_rfl) (by kernel_rfl) (fun _ d _ _ _ h => by cases d <;> exact h) ⟨e0, e1, e2, e3, e4, e5, e6⟩ ?_
                  repeat (first
                    | (refine wpT_pure (v := ?_) rfl (by rfl) ?_ ?_
                       rotate_left 1
                       · (intro w; go_simp; try with_reducible rfl)
                       try simp only [Act.put, List.setIfInBounds_toArray, List.set_cons_zero, List.set_cons_succ, List.getElem_toArray, List.getElem_cons_succ, List.getElem_cons_zero])
                    | (refine wpT_held (v := ?_) rfl (by rfl) ?_ ?_
                       rotate_left 1
                       · (rintro w ⟨hs0, hs1, hs2, hs3, hs4, hs5, hs6⟩; go_simp; try with_reducible rfl)
                       try simp only [Act.put, List.setIfInBounds_toArray, List.set_cons_zero, List.set_cons_succ, List.getElem_toArray, List.getElem_cons_succ, List.getElem_cons_zero]))
                --BEGIN
                  obtain ⟨WQ, hWQ⟩ : ∃ WQ, WQ = wr.drew := ⟨_, rfl⟩
                  have HE8 : Hid (WQ.ownsRow w4.heap.size 37 7 (.slice (some ⟨bE, 0, none⟩) k cp) k (evsRow evs)) := by rw [hWQ]; exact Lib.hid (own_kept HE7.out hq.drew (by simp))
                  have hqD : Keeps [] W7 WQ := by rw [hWQ]; exact hq.drew
                  have hkW : Keeps [] WQ WQ := Keeps.refl [] WQ
                  have HZ5 : Hid (∀ (last' : List EvR) (vn vl : Value) (W : World), GlobX W → (∀ p ∈ x, p.ok) → ArgPart W (.slice aox nx cpx) x → ArgStr W vn ((stagesM x).take i ++ (stagesM x).drop (i + 1)) → ArgEv W vl last' → ((stagesM x).take i ++ (stagesM x).drop (i + 1)).length = last'.length → Calls Tryz.prog 19 #[.slice aox nx cpx, .agg #[.string ev.key, .string ev.typ, .int .i64 ev.n0, .int .i64 ev.n1, .int .i64 ev.n2, .int .i64 ev.n3, .string ev.text], vn, vl] W fun e w' => (∃ bz, e = .returned (.tuple #[.bool bz, .int .i64 5])) ∧ Keeps [] W w') := Lib.hid (fun last' vn vl W hG hok hA hn hl hlen => (holds_any x ev _ last' _ vn vl W hG hok hA hn hl).mono fun e w' h => by
                    have h5 : holdsC x ((stagesM x).take i ++ (stagesM x).drop (i + 1)) last' = 5 := by rw [needs_code HX.out hlen, miss_less (stagesM_apart x).1 (by rw [HLN.out]; exact hlt)]; rfl
                    rw [h5] at h
                    exact ⟨⟨_, h.1⟩, h.2⟩)
                  rw [← hWQ] at hkD ⊢
                  obtain ⟨aN, haN⟩ : ∃ aN : Option Addr, aN = (if cpL = i + 1 then some ⟨bk, o, none⟩ else some ⟨bk, o + (i + 1), none⟩) := ⟨_, rfl⟩
                  obtain ⟨aE, haE⟩ : ∃ aE : Option Addr, aE = (if cp = i + 1 then some ⟨bE, 0, none⟩ else some ⟨bE, (i + 1) * 7, none⟩) := ⟨_, rfl⟩
                  have HSN : Hid (∀ W : World, Keeps [] w4 W → SlC W (.slice aN (k - (i + 1)) (cpL - (i + 1))) (k - (i + 1)) 1 (((stagesM x).drop (i + 1)).map Value.string)) := Lib.hid (fun W hW => by rw [haN]; exact strs_back (HOL.out.keep hW) HLN.out hlt hcL1)
                  have HSE : Hid (∀ W : World, Keeps [] WQ W → SlC W (.slice aE (k - (i + 1)) (cp - (i + 1))) (k - (i + 1)) 7 (evsRow (evs.drop (i + 1)))) := Lib.hid (fun W hW => by rw [haE]; exact evs_back (own_kept HE8.out hW (by simp)) hlt hcE1)
                  rw [← haN, ← haE]
                  clear haN haE
                  clear e0 e1 e2 e3 e4 e5 e6 hWQ
                  refine wpT_alt rfl rfl (by rfl) (by rfl) (fun K hK => ?_) (fun K hK => ?_)
                  · skip
                    go_simp
                    refine hK _ _ (ev_block ((hkD.alloc (.cells #[] 9 (0, 0))).heap HEV.out (by simp))) ?_
                    clear hK K
                    try simp only [Act.put, List.setIfInBounds_toArray, List.set_cons_zero, List.set_cons_succ, List.getElem_toArray, List.getElem_cons_succ, List.getElem_cons_zero]
                    obtain ⟨V1, hV1⟩ : ∃ V, V = WQ.alloc (.cells #[] 9 (0, 0)) := ⟨_, rfl⟩
                    have hkc1 : Keeps [] w4 V1 := by rw [hV1]; exact hkD.alloc _
                    have hkw1 : Keeps [] WQ V1 := by rw [hV1]; exact hkW.alloc _
                    have hst1 : Keeps [] WQ V1 := by rw [hV1]; exact (Keeps.refl [] _).alloc _
                    have hN1 : V1.ownsRow WQ.heap.size 9 1 (.slice (some ⟨WQ.heap.size, 0, none⟩) 0 0) 0 ((([] : List ByteArray)).map Value.string) := by rw [hV1]; exact own_mono (own_new WQ #[] 9 1 0 rfl (by decide)) hkW.size
                    rw [← hV1]
                    clear hV1
                    refine wpT_alt rfl rfl (by rfl) (by rfl) (fun K hK => ?_) (fun K hK => ?_)
                    · skip
                      refine wp_append_any rtStr _ _ (by rfl) WQ.heap.size (.slice (some ⟨WQ.heap.size, 0, none⟩) 0 0) (0) ((([] : List ByteArray)).map Value.string) (by rfl) hN1 _ (i) (((stagesM x).take i).map Value.string) (by rfl) (strs_front (HOL.out.keep hkc1) HLN.out (by omega)) (strs_one _) (by omega) (by unfold maxLen; omega) hkw1.size ?_
                      intro ao2 cp2 V2 hown2 hgrow2 hat2 _
                      have hkw2 : Keeps [] WQ V2 := hkw1.grown hgrow2 (fun k h => .inr (own_ge hN1 h))
                      have hkc2 : Keeps [] w4 V2 := hkD.then hkw2
                      simp only [Nat.zero_add] at hown2 hat2 ⊢
                      have hown2 : V2.ownsRow WQ.heap.size 9 1 (.slice ao2 (i) cp2) (i) (((stagesM x).take i).map Value.string) := by have h := hown2; rwa [List.map_nil, List.nil_append] at h
                      refine hK _ _ (ev_block ((hkc2).heap HEV.out (by simp))) ?_
                      clear hK K
                      try simp only [Act.put, List.setIfInBounds_toArray, List.set_cons_zero, List.set_cons_succ, List.getElem_toArray, List.getElem_cons_succ, List.getElem_cons_zero]
                      refine wpT_alt rfl rfl (by rfl) (by rfl) (fun K hK => ?_) (fun K hK => ?_)
                      · skip
                        refine wp_append_any rtStr _ _ (by rfl) WQ.heap.size (.slice ao2 (i) cp2) (i) (((stagesM x).take i).map Value.string) (by rfl) hown2 _ ((k - (i + 1))) (((stagesM x).drop (i + 1)).map Value.string) (by rfl) (HSN.out _ hkc2) (strs_one _) (by omega) (by unfold maxLen; omega) hkw2.size ?_
                        intro ao3 cp3 V3 hown3 hgrow3 hat3 _
                        have hkw3 : Keeps [] WQ V3 := hkw2.grown hgrow3 (fun k h => .inr (own_ge hown2 h))
                        have hkc3 : Keeps [] w4 V3 := hkD.then hkw3
                        have hown3 : V3.ownsRow WQ.heap.size 9 1 (.slice ao3 ((i + (k - (i + 1)))) cp3) ((i + (k - (i + 1)))) (((stagesM x).take i ++ (stagesM x).drop (i + 1)).map Value.string) := by rw [List.map_append]; exact hown3
                        refine hK _ _ (ev_block ((hkc3).heap HEV.out (by simp))) ?_
                        clear hK K
                        try simp only [Act.put, List.setIfInBounds_toArray, List.set_cons_zero, List.set_cons_succ, List.getElem_toArray, List.getElem_cons_succ, List.getElem_cons_zero]
                        refine wpT_step rfl (by rfl) (fun K hK => ?_)
                        go_simp
                        refine hK _ _ (ev_block ((hkc3.alloc (.cells #[] 37 (0, 0))).heap HEV.out (by simp))) ?_
                        clear hK K
                        try simp only [Act.put, List.setIfInBounds_toArray, List.set_cons_zero, List.set_cons_succ, List.getElem_toArray, List.getElem_cons_succ, List.getElem_cons_zero]
                        obtain ⟨V4, hV4⟩ : ∃ V, V = V3.alloc (.cells #[] 37 (0, 0)) := ⟨_, rfl⟩
                        have hkc4 : Keeps [] w4 V4 := by rw [hV4]; exact hkc3.alloc _
                        have hkw4 : Keeps [] WQ V4 := by rw [hV4]; exact hkw3.alloc _
                        have hst4 : Keeps [] V3 V4 := by rw [hV4]; exact (Keeps.refl [] _).alloc _
                        have hT4 : Two WQ.heap.size V4 (.slice ao3 ((i + (k - (i + 1)))) cp3) (.slice (some ⟨V3.heap.size, 0, none⟩) 0 0) (i + (k - (i + 1))) 0 ((stagesM x).take i ++ (stagesM x).drop (i + 1)) (([] : List EvR)) := by rw [hV4]; exact Two.newE hown3 (([] : List EvR)) 0 rfl (by decide) hkw3.size
                        rw [← hV4]
                        clear hV4
                        refine wpT_step rfl (by rfl) (fun K hK => ?_)
                        refine wp_append_any rtEv _ _ (by rfl) WQ.heap.size (.slice (some ⟨V3.heap.size, 0, none⟩) 0 0) (0) (evsRow (([] : List EvR))) (by rfl) hT4.e _ (i) (evsRow (evs.take i)) (by rfl) (evs_front (own_kept HE8.out hkw4 (by simp)) (by omega)) (evsRow_cell _) (by omega) (by unfold maxLen; omega) hkw4.size ?_
                        intro ao5 cp5 V5 hown5 hgrow5 hat5 _
                        have hkw5 : Keeps [] WQ V5 := hkw4.grown hgrow5 (fun k h => .inr (own_ge hT4.e h))
                        have hkc5 : Keeps [] w4 V5 := hkD.then hkw5
                        simp only [Nat.zero_add] at hown5 hat5 ⊢
                        have hown5 : V5.ownsRow WQ.heap.size 37 7 (.slice ao5 (i) cp5) (i) (evsRow (evs.take i)) := by have h := hown5; rwa [show evsRow [] = [] from rfl, List.nil_append] at h
                        have hT5 := hT4.growE hown5 hgrow5 hat5
                        refine hK _ _ (ev_block ((hkc5).heap HEV.out (by simp))) ?_
                        clear hK K
                        try simp only [Act.put, List.setIfInBounds_toArray, List.set_cons_zero, List.set_cons_succ, List.getElem_toArray, List.getElem_cons_succ, List.getElem_cons_zero]
                        refine wpT_step rfl (by rfl) (fun K hK => ?_)
                        refine wp_append_any rtEv _ _ (by rfl) WQ.heap.size (.slice ao5 (i) cp5) (i) (evsRow (evs.take i)) (by rfl) hT5.e _ ((k - (i + 1))) (evsRow (evs.drop (i + 1))) (by rfl) (HSE.out _ hkw5) (evsRow_cell _) (by omega) (by unfold maxLen; omega) hkw5.size ?_
                        intro ao6 cp6 V6 hown6 hgrow6 hat6 _
                        have hkw6 : Keeps [] WQ V6 := hkw5.grown hgrow6 (fun k h => .inr (own_ge hT5.e h))
                        have hkc6 : Keeps [] w4 V6 := hkD.then hkw6
                        have hown6 : V6.ownsRow WQ.heap.size 37 7 (.slice ao6 ((i + (k - (i + 1)))) cp6) ((i + (k - (i + 1)))) (evsRow (evs.take i ++ evs.drop (i + 1))) := by rw [evsRow_app]; exact hown6
                        have hT6 := hT5.growE hown6 hgrow6 hat6
                        refine hK _ _ (ev_block ((hkc6).heap HEV.out (by simp))) ?_
                        clear hK K
                        try simp only [Act.put, List.setIfInBounds_toArray, List.set_cons_zero, List.set_cons_succ, List.getElem_toArray, List.getElem_cons_succ, List.getElem_cons_zero]
                        refine wpT_last rfl (by rfl) (fun K hK => ?_)
                        go_simp
                        refine (HZ5.out _ _ _ _ (HG.out.keep (hk4'.then hkc6)) HOK.out (HAx.out.keep (hk4'.then hkc6)) (own_strs hT6.n (by have h := HLN.out; simp only [List.length_append, List.length_take, List.length_drop]; omega)) (own_evs (L := evs.take i ++ evs.drop (i + 1)) hT6.e (by have h := HEL.out; simp only [List.length_append, List.length_take, List.length_drop]; omega)) (by have h1 := HLN.out; have h2 := HEL.out; simp only [List.length_append, List.length_take, List.length_drop]; omega)).mono ?_
                        rintro e w9 ⟨⟨bz, rfl⟩, hk9⟩
                        refine hK _ _ ?_
                        clear hK K
                        try simp only [Act.put, List.setIfInBounds_toArray, List.set_cons_zero, List.set_cons_succ, List.getElem_toArray, List.getElem_cons_succ, List.getElem_cons_zero]
                        repeat (first
                          | (refine wpT_pure (v := ?_) rfl (by rfl) ?_ ?_
                             rotate_left 1
                             · (intro w; go_simp; try with_reducible rfl)
                             try simp only [Act.put, List.setIfInBounds_toArray, List.set_cons_zero, List.set_cons_succ, List.getElem_toArray, List.getElem_cons_succ, List.getElem_cons_zero]))
                        refine wpT_done ?_
                        go_wp2_with fail
                        go_meet
                        exact ⟨rfl, hqD.then (hkw6.then hk9)⟩
                      · skip
                        go_simp
                        refine hK _ _ (ev_block ((hkc2.alloc (.cells #[] 37 (0, 0))).heap HEV.out (by simp))) ?_
                        clear hK K
                        try simp only [Act.put, List.setIfInBounds_toArray, List.set_cons_zero, List.set_cons_succ, List.getElem_toArray, List.getElem_cons_succ, List.getElem_cons_zero]
                        obtain ⟨V3, hV3⟩ : ∃ V, V = V2.alloc (.cells #[] 37 (0, 0)) := ⟨_, rfl⟩
                        have hkc3 : Keeps [] w4 V3 := by rw [hV3]; exact hkc2.alloc _
                        have hkw3 : Keeps [] WQ V3 := by rw [hV3]; exact hkw2.alloc _
                        have hst3 : Keeps [] V2 V3 := by rw [hV3]; exact (Keeps.refl [] _).alloc _
                        have hT3 : Two WQ.heap.size V3 (.slice ao2 (i) cp2) (.slice (some ⟨V2.heap.size, 0, none⟩) 0 0) i 0 ((stagesM x).take i) (([] : List EvR)) := by rw [hV3]; exact Two.newE hown2 (([] : List EvR)) 0 rfl (by decide) hkw2.size
                        rw [← hV3]
                        clear hV3
                        refine wpT_step rfl (by rfl) (fun K hK => ?_)
                        refine wp_append_any rtStr _ _ (by rfl) WQ.heap.size (.slice ao2 (i) cp2) (i) (((stagesM x).take i).map Value.string) (by rfl) hT3.n _ ((k - (i + 1))) (((stagesM x).drop (i + 1)).map Value.string) (by rfl) (HSN.out _ hkc3) (strs_one _) (by omega) (by unfold maxLen; omega) hkw3.size ?_
                        intro ao4 cp4 V4 hown4 hgrow4 hat4 _
                        have hkw4 : Keeps [] WQ V4 := hkw3.grown hgrow4 (fun k h => .inr (own_ge hT3.n h))
                        have hkc4 : Keeps [] w4 V4 := hkD.then hkw4
                        have hown4 : V4.ownsRow WQ.heap.size 9 1 (.slice ao4 ((i + (k - (i + 1)))) cp4) ((i + (k - (i + 1)))) (((stagesM x).take i ++ (stagesM x).drop (i + 1)).map Value.string) := by rw [List.map_append]; exact hown4
                        have hT4 := hT3.growN hown4 hgrow4 hat4
                        refine hK _ _ (ev_block ((hkc4).heap HEV.out (by simp))) ?_
                        clear hK K
                        try simp only [Act.put, List.setIfInBounds_toArray, List.set_cons_zero, List.set_cons_succ, List.getElem_toArray, List.getElem_cons_succ, List.getElem_cons_zero]
                        refine wpT_step rfl (by rfl) (fun K hK => ?_)
                        refine wp_append_any rtEv _ _ (by rfl) WQ.heap.size (.slice (some ⟨V2.heap.size, 0, none⟩) 0 0) (0) (evsRow (([] : List EvR))) (by rfl) hT4.e _ (i) (evsRow (evs.take i)) (by rfl) (evs_front (own_kept HE8.out hkw4 (by simp)) (by omega)) (evsRow_cell _) (by omega) (by unfold maxLen; omega) hkw4.size ?_
                        intro ao5 cp5 V5 hown5 hgrow5 hat5 _
                        have hkw5 : Keeps [] WQ V5 := hkw4.grown hgrow5 (fun k h => .inr (own_ge hT4.e h))
                        have hkc5 : Keeps [] w4 V5 := hkD.then hkw5
                        simp only [Nat.zero_add] at hown5 hat5 ⊢
                        have hown5 : V5.ownsRow WQ.heap.size 37 7 (.slice ao5 (i) cp5) (i) (evsRow (evs.take i)) := by have h := hown5; rwa [show evsRow [] = [] from rfl, List.nil_append] at h
                        have hT5 := hT4.growE hown5 hgrow5 hat5
                        refine hK _ _ (ev_block ((hkc5).heap HEV.out (by simp))) ?_
                        clear hK K
                        try simp only [Act.put, List.setIfInBounds_toArray, List.set_cons_zero, List.set_cons_succ, List.getElem_toArray, List.getElem_cons_succ, List.getElem_cons_zero]
                        refine wpT_step rfl (by rfl) (fun K hK => ?_)
                        refine wp_append_any rtEv _ _ (by rfl) WQ.heap.size (.slice ao5 (i) cp5) (i) (evsRow (evs.take i)) (by rfl) hT5.e _ ((k - (i + 1))) (evsRow (evs.drop (i + 1))) (by rfl) (HSE.out _ hkw5) (evsRow_cell _) (by omega) (by unfold maxLen; omega) hkw5.size ?_
                        intro ao6 cp6 V6 hown6 hgrow6 hat6 _
                        have hkw6 : Keeps [] WQ V6 := hkw5.grown hgrow6 (fun k h => .inr (own_ge hT5.e h))
                        have hkc6 : Keeps [] w4 V6 := hkD.then hkw6
                        have hown6 : V6.ownsRow WQ.heap.size 37 7 (.slice ao6 ((i + (k - (i + 1)))) cp6) ((i + (k - (i + 1)))) (evsRow (evs.take i ++ evs.drop (i + 1))) := by rw [evsRow_app]; exact hown6
                        have hT6 := hT5.growE hown6 hgrow6 hat6
                        refine hK _ _ (ev_block ((hkc6).heap HEV.out (by simp))) ?_
                        clear hK K
                        try simp only [Act.put, List.setIfInBounds_toArray, List.set_cons_zero, List.set_cons_succ, List.getElem_toArray, List.getElem_cons_succ, List.getElem_cons_zero]
                        refine wpT_last rfl (by rfl) (fun K hK => ?_)
                        go_simp
                        refine (HZ5.out _ _ _ _ (HG.out.keep (hk4'.then hkc6)) HOK.out (HAx.out.keep (hk4'.then hkc6)) (own_strs hT6.n (by have h := HLN.out; simp only [List.length_append, List.length_take, List.length_drop]; omega)) (own_evs (L := evs.take i ++ evs.drop (i + 1)) hT6.e (by have h := HEL.out; simp only [List.length_append, List.length_take, List.length_drop]; omega)) (by have h1 := HLN.out; have h2 := HEL.out; simp only [List.length_append, List.length_take, List.length_drop]; omega)).mono ?_
                        rintro e w9 ⟨⟨bz, rfl⟩, hk9⟩
                        refine hK _ _ ?_
                        clear hK K
                        try simp only [Act.put, List.setIfInBounds_toArray, List.set_cons_zero, List.set_cons_succ, List.getElem_toArray, List.getElem_cons_succ, List.getElem_cons_zero]
                        repeat (first
                          | (refine wpT_pure (v := ?_) rfl (by rfl) ?_ ?_
                             rotate_left 1
                             · (intro w; go_simp; try with_reducible rfl)
                             try simp only [Act.put, List.setIfInBounds_toArray, List.set_cons_zero, List.set_cons_succ, List.getElem_toArray, List.getElem_cons_succ, List.getElem_cons_zero]))
                        refine wpT_done ?_
                        go_wp2_with fail
                        go_meet
                        exact ⟨rfl, hqD.then (hkw6.then hk9)⟩
                    · skip
                      go_simp
                      refine hK _ _ (ev_block ((hkc1.alloc (.cells #[] 37 (0, 0))).heap HEV.out (by simp))) ?_
                      clear hK K
                      try simp only [Act.put, List.setIfInBounds_toArray, List.set_cons_zero, List.set_cons_succ, List.getElem_toArray, List.getElem_cons_succ, List.getElem_cons_zero]
                      obtain ⟨V2, hV2⟩ : ∃ V, V = V1.alloc (.cells #[] 37 (0, 0)) := ⟨_, rfl⟩
                      have hkc2 : Keeps [] w4 V2 := by rw [hV2]; exact hkc1.alloc _
                      have hkw2 : Keeps [] WQ V2 := by rw [hV2]; exact hkw1.alloc _
                      have hst2 : Keeps [] V1 V2 := by rw [hV2]; exact (Keeps.refl [] _).alloc _
                      have hT2 : Two WQ.heap.size V2 (.slice (some ⟨WQ.heap.size, 0, none⟩) 0 0) (.slice (some ⟨V1.heap.size, 0, none⟩) 0 0) 0 0 (([] : List ByteArray)) (([] : List EvR)) := by rw [hV2]; exact Two.newE hN1 (([] : List EvR)) 0 rfl (by decide) hkw1.size
                      rw [← hV2]
                      clear hV2
                      refine wpT_step rfl (by rfl) (fun K hK => ?_)
                      refine wp_append_any rtStr _ _ (by rfl) WQ.heap.size (.slice (some ⟨WQ.heap.size, 0, none⟩) 0 0) (0) ((([] : List ByteArray)).map Value.string) (by rfl) hT2.n _ (i) (((stagesM x).take i).map Value.string) (by rfl) (strs_front (HOL.out.keep hkc2) HLN.out (by omega)) (strs_one _) (by omega) (by unfold maxLen; omega) hkw2.size ?_
                      intro ao3 cp3 V3 hown3 hgrow3 hat3 _
                      have hkw3 : Keeps [] WQ V3 := hkw2.grown hgrow3 (fun k h => .inr (own_ge hT2.n h))
                      have hkc3 : Keeps [] w4 V3 := hkD.then hkw3
                      simp only [Nat.zero_add] at hown3 hat3 ⊢
                      have hown3 : V3.ownsRow WQ.heap.size 9 1 (.slice ao3 (i) cp3) (i) (((stagesM x).take i).map Value.string) := by have h := hown3; rwa [List.map_nil, List.nil_append] at h
                      have hT3 := hT2.growN hown3 hgrow3 hat3
                      refine hK _ _ (ev_block ((hkc3).heap HEV.out (by simp))) ?_
                      clear hK K
                      try simp only [Act.put, List.setIfInBounds_toArray, List.set_cons_zero, List.set_cons_succ, List.getElem_toArray, List.getElem_cons_succ, List.getElem_cons_zero]
                      refine wpT_step rfl (by rfl) (fun K hK => ?_)
                      refine wp_append_any rtStr _ _ (by rfl) WQ.heap.size (.slice ao3 (i) cp3) (i) (((stagesM x).take i).map Value.string) (by rfl) hT3.n _ ((k - (i + 1))) (((stagesM x).drop (i + 1)).map Value.string) (by rfl) (HSN.out _ hkc3) (strs_one _) (by omega) (by unfold maxLen; omega) hkw3.size ?_
                      intro ao4 cp4 V4 hown4 hgrow4 hat4 _
                      have hkw4 : Keeps [] WQ V4 := hkw3.grown hgrow4 (fun k h => .inr (own_ge hT3.n h))
                      have hkc4 : Keeps [] w4 V4 := hkD.then hkw4
                      have hown4 : V4.ownsRow WQ.heap.size 9 1 (.slice ao4 ((i + (k - (i + 1)))) cp4) ((i + (k - (i + 1)))) (((stagesM x).take i ++ (stagesM x).drop (i + 1)).map Value.string) := by rw [List.map_append]; exact hown4
                      have hT4 := hT3.growN hown4 hgrow4 hat4
                      refine hK _ _ (ev_block ((hkc4).heap HEV.out (by simp))) ?_
                      clear hK K
                      try simp only [Act.put, List.setIfInBounds_toArray, List.set_cons_zero, List.set_cons_succ, List.getElem_toArray, List.getElem_cons_succ, List.getElem_cons_zero]
                      refine wpT_step rfl (by rfl) (fun K hK => ?_)
                      refine wp_append_any rtEv _ _ (by rfl) WQ.heap.size (.slice (some ⟨V1.heap.size, 0, none⟩) 0 0) (0) (evsRow (([] : List EvR))) (by rfl) hT4.e _ (i) (evsRow (evs.take i)) (by rfl) (evs_front (own_kept HE8.out hkw4 (by simp)) (by omega)) (evsRow_cell _) (by omega) (by unfold maxLen; omega) hkw4.size ?_
                      intro ao5 cp5 V5 hown5 hgrow5 hat5 _
                      have hkw5 : Keeps [] WQ V5 := hkw4.grown hgrow5 (fun k h => .inr (own_ge hT4.e h))
                      have hkc5 : Keeps [] w4 V5 := hkD.then hkw5
                      simp only [Nat.zero_add] at hown5 hat5 ⊢
                      have hown5 : V5.ownsRow WQ.heap.size 37 7 (.slice ao5 (i) cp5) (i) (evsRow (evs.take i)) := by have h := hown5; rwa [show evsRow [] = [] from rfl, List.nil_append] at h
                      have hT5 := hT4.growE hown5 hgrow5 hat5
                      refine hK _ _ (ev_block ((hkc5).heap HEV.out (by simp))) ?_
                      clear hK K
                      try simp only [Act.put, List.setIfInBounds_toArray, List.set_cons_zero, List.set_cons_succ, List.getElem_toArray, List.getElem_cons_succ, List.getElem_cons_zero]
                      refine wpT_step rfl (by rfl) (fun K hK => ?_)
                      refine wp_append_any rtEv _ _ (by rfl) WQ.heap.size (.slice ao5 (i) cp5) (i) (evsRow (evs.take i)) (by rfl) hT5.e _ ((k - (i + 1))) (evsRow (evs.drop (i + 1))) (by rfl) (HSE.out _ hkw5) (evsRow_cell _) (by omega) (by unfold maxLen; omega) hkw5.size ?_
                      intro ao6 cp6 V6 hown6 hgrow6 hat6 _
                      have hkw6 : Keeps [] WQ V6 := hkw5.grown hgrow6 (fun k h => .inr (own_ge hT5.e h))
                      have hkc6 : Keeps [] w4 V6 := hkD.then hkw6
                      have hown6 : V6.ownsRow WQ.heap.size 37 7 (.slice ao6 ((i + (k - (i + 1)))) cp6) ((i + (k - (i + 1)))) (evsRow (evs.take i ++ evs.drop (i + 1))) := by rw [evsRow_app]; exact hown6
                      have hT6 := hT5.growE hown6 hgrow6 hat6
                      refine hK _ _ (ev_block ((hkc6).heap HEV.out (by simp))) ?_
                      clear hK K
                      try simp only [Act.put, List.setIfInBounds_toArray, List.set_cons_zero, List.set_cons_succ, List.getElem_toArray, List.getElem_cons_succ, List.getElem_cons_zero]
                      refine wpT_last rfl (by rfl) (fun K hK => ?_)
                      go_simp
                      refine (HZ5.out _ _ _ _ (HG.out.keep (hk4'.then hkc6)) HOK.out (HAx.out.keep (hk4'.then hkc6)) (own_strs hT6.n (by have h := HLN.out; simp only [List.length_append, List.length_take, List.length_drop]; omega)) (own_evs (L := evs.take i ++ evs.drop (i + 1)) hT6.e (by have h := HEL.out; simp only [List.length_append, List.length_take, List.length_drop]; omega)) (by have h1 := HLN.out; have h2 := HEL.out; simp only [List.length_append, List.length_take, List.length_drop]; omega)).mono ?_
                      rintro e w9 ⟨⟨bz, rfl⟩, hk9⟩
                      refine hK _ _ ?_
                      clear hK K
                      try simp only [Act.put, List.setIfInBounds_toArray, List.set_cons_zero, List.set_cons_succ, List.getElem_toArray, List.getElem_cons_succ, List.getElem_cons_zero]
                      repeat (first
                        | (refine wpT_pure (v := ?_) rfl (by rfl) ?_ ?_
                           rotate_left 1
                           · (intro w; go_simp; try with_reducible rfl)
                           try simp only [Act.put, List.setIfInBounds_toArray, List.set_cons_zero, List.set_cons_succ, List.getElem_toArray, List.getElem_cons_succ, List.getElem_cons_zero]))
                      refine wpT_done ?_
                      go_wp2_with fail
                      go_meet
                      exact ⟨rfl, hqD.then (hkw6.then hk9)⟩
                  · skip
                    go_simp
                    refine hK _ _ (ev_block ((hkD.alloc (.cells #[] 37 (0, 0))).heap HEV.out (by simp))) ?_
                    clear hK K
                    try simp only [Act.put, List.setIfInBounds_toArray, List.set_cons_zero, List.set_cons_succ, List.getElem_toArray, List.getElem_cons_succ, List.getElem_cons_zero]
                    obtain ⟨V1, hV1⟩ : ∃ V, V = WQ.alloc (.cells #[] 37 (0, 0)) := ⟨_, rfl⟩
                    have hkc1 : Keeps [] w4 V1 := by rw [hV1]; exact hkD.alloc _
                    have hkw1 : Keeps [] WQ V1 := by rw [hV1]; exact hkW.alloc _
                    have hst1 : Keeps [] WQ V1 := by rw [hV1]; exact (Keeps.refl [] _).alloc _
                    have hE1 : V1.ownsRow WQ.heap.size 37 7 (.slice (some ⟨WQ.heap.size, 0, none⟩) 0 0) 0 (evsRow (([] : List EvR))) := by rw [hV1]; exact own_mono (own_new WQ #[] 37 7 0 rfl (by decide)) hkW.size
                    rw [← hV1]
                    clear hV1
                    refine wpT_step rfl (by rfl) (fun K hK => ?_)
                    go_simp
                    refine hK _ _ (ev_block ((hkc1.alloc (.cells #[] 9 (0, 0))).heap HEV.out (by simp))) ?_
                    clear hK K
                    try simp only [Act.put, List.setIfInBounds_toArray, List.set_cons_zero, List.set_cons_succ, List.getElem_toArray, List.getElem_cons_succ, List.getElem_cons_zero]
                    obtain ⟨V2, hV2⟩ : ∃ V, V = V1.alloc (.cells #[] 9 (0, 0)) := ⟨_, rfl⟩
                    have hkc2 : Keeps [] w4 V2 := by rw [hV2]; exact hkc1.alloc _
                    have hkw2 : Keeps [] WQ V2 := by rw [hV2]; exact hkw1.alloc _
                    have hst2 : Keeps [] V1 V2 := by rw [hV2]; exact (Keeps.refl [] _).alloc _
                    have hT2 : Two WQ.heap.size V2 (.slice (some ⟨V1.heap.size, 0, none⟩) 0 0) (.slice (some ⟨WQ.heap.size, 0, none⟩) 0 0) 0 0 (([] : List ByteArray)) (([] : List EvR)) := by rw [hV2]; exact Two.newN hE1 (([] : List ByteArray)) 0 rfl (by decide) hkw1.size
                    rw [← hV2]
                    clear hV2
                    refine wpT_step rfl (by rfl) (fun K hK => ?_)
                    refine wp_append_any rtStr _ _ (by rfl) WQ.heap.size (.slice (some ⟨V1.heap.size, 0, none⟩) 0 0) (0) ((([] : List ByteArray)).map Value.string) (by rfl) hT2.n _ (i) (((stagesM x).take i).map Value.string) (by rfl) (strs_front (HOL.out.keep hkc2) HLN.out (by omega)) (strs_one _) (by omega) (by unfold maxLen; omega) hkw2.size ?_
                    intro ao3 cp3 V3 hown3 hgrow3 hat3 _
                    have hkw3 : Keeps [] WQ V3 := hkw2.grown hgrow3 (fun k h => .inr (own_ge hT2.n h))
                    have hkc3 : Keeps [] w4 V3 := hkD.then hkw3
                    simp only [Nat.zero_add] at hown3 hat3 ⊢
                    have hown3 : V3.ownsRow WQ.heap.size 9 1 (.slice ao3 (i) cp3) (i) (((stagesM x).take i).map Value.string) := by have h := hown3; rwa [List.map_nil, List.nil_append] at h
                    have hT3 := hT2.growN hown3 hgrow3 hat3
                    refine hK _ _ (ev_block ((hkc3).heap HEV.out (by simp))) ?_
                    clear hK K
                    try simp only [Act.put, List.setIfInBounds_toArray, List.set_cons_zero, List.set_cons_succ, List.getElem_toArray, List.getElem_cons_succ, List.getElem_cons_zero]
                    refine wpT_step rfl (by rfl) (fun K hK => ?_)
                    refine wp_append_any rtStr _ _ (by rfl) WQ.heap.size (.slice ao3 (i) cp3) (i) (((stagesM x).take i).map Value.string) (by rfl) hT3.n _ ((k - (i + 1))) (((stagesM x).drop (i + 1)).map Value.string) (by rfl) (HSN.out _ hkc3) (strs_one _) (by omega) (by unfold maxLen; omega) hkw3.size ?_
                    intro ao4 cp4 V4 hown4 hgrow4 hat4 _
                    have hkw4 : Keeps [] WQ V4 := hkw3.grown hgrow4 (fun k h => .inr (own_ge hT3.n h))
                    have hkc4 : Keeps [] w4 V4 := hkD.then hkw4
                    have hown4 : V4.ownsRow WQ.heap.size 9 1 (.slice ao4 ((i + (k - (i + 1)))) cp4) ((i + (k - (i + 1)))) (((stagesM x).take i ++ (stagesM x).drop (i + 1)).map Value.string) := by rw [List.map_append]; exact hown4
                    have hT4 := hT3.growN hown4 hgrow4 hat4
                    refine hK _ _ (ev_block ((hkc4).heap HEV.out (by simp))) ?_
                    clear hK K
                    try simp only [Act.put, List.setIfInBounds_toArray, List.set_cons_zero, List.set_cons_succ, List.getElem_toArray, List.getElem_cons_succ, List.getElem_cons_zero]
                    refine wpT_step rfl (by rfl) (fun K hK => ?_)
                    refine wp_append_any rtEv _ _ (by rfl) WQ.heap.size (.slice (some ⟨WQ.heap.size, 0, none⟩) 0 0) (0) (evsRow (([] : List EvR))) (by rfl) hT4.e _ (i) (evsRow (evs.take i)) (by rfl) (evs_front (own_kept HE8.out hkw4 (by simp)) (by omega)) (evsRow_cell _) (by omega) (by unfold maxLen; omega) hkw4.size ?_
                    intro ao5 cp5 V5 hown5 hgrow5 hat5 _
                    have hkw5 : Keeps [] WQ V5 := hkw4.grown hgrow5 (fun k h => .inr (own_ge hT4.e h))
                    have hkc5 : Keeps [] w4 V5 := hkD.then hkw5
                    simp only [Nat.zero_add] at hown5 hat5 ⊢
                    have hown5 : V5.ownsRow WQ.heap.size 37 7 (.slice ao5 (i) cp5) (i) (evsRow (evs.take i)) := by have h := hown5; rwa [show evsRow [] = [] from rfl, List.nil_append] at h
                    have hT5 := hT4.growE hown5 hgrow5 hat5
                    refine hK _ _ (ev_block ((hkc5).heap HEV.out (by simp))) ?_
                    clear hK K
                    try simp only [Act.put, List.setIfInBounds_toArray, List.set_cons_zero, List.set_cons_succ, List.getElem_toArray, List.getElem_cons_succ, List.getElem_cons_zero]
                    refine wpT_step rfl (by rfl) (fun K hK => ?_)
                    refine wp_append_any rtEv _ _ (by rfl) WQ.heap.size (.slice ao5 (i) cp5) (i) (evsRow (evs.take i)) (by rfl) hT5.e _ ((k - (i + 1))) (evsRow (evs.drop (i + 1))) (by rfl) (HSE.out _ hkw5) (evsRow_cell _) (by omega) (by unfold maxLen; omega) hkw5.size ?_
                    intro ao6 cp6 V6 hown6 hgrow6 hat6 _
                    have hkw6 : Keeps [] WQ V6 := hkw5.grown hgrow6 (fun k h => .inr (own_ge hT5.e h))
                    have hkc6 : Keeps [] w4 V6 := hkD.then hkw6
                    have hown6 : V6.ownsRow WQ.heap.size 37 7 (.slice ao6 ((i + (k - (i + 1)))) cp6) ((i + (k - (i + 1)))) (evsRow (evs.take i ++ evs.drop (i + 1))) := by rw [evsRow_app]; exact hown6
                    have hT6 := hT5.growE hown6 hgrow6 hat6
                    refine hK _ _ (ev_block ((hkc6).heap HEV.out (by simp))) ?_
                    clear hK K
                    try simp only [Act.put, List.setIfInBounds_toArray, List.set_cons_zero, List.set_cons_succ, List.getElem_toArray, List.getElem_cons_succ, List.getElem_cons_zero]
                    refine wpT_last rfl (by rfl) (fun K hK => ?_)
                    go_simp
                    refine (HZ5.out _ _ _ _ (HG.out.keep (hk4'.then hkc6)) HOK.out (HAx.out.keep (hk4'.then hkc6)) (own_strs hT6.n (by have h := HLN.out; simp only [List.length_append, List.length_take, List.length_drop]; omega)) (own_evs (L := evs.take i ++ evs.drop (i + 1)) hT6.e (by have h := HEL.out; simp only [List.length_append, List.length_take, List.length_drop]; omega)) (by have h1 := HLN.out; have h2 := HEL.out; simp only [List.length_append, List.length_take, List.length_drop]; omega)).mono ?_
                    rintro e w9 ⟨⟨bz, rfl⟩, hk9⟩
                    refine hK _ _ ?_
                    clear hK K
                    try simp only [Act.put, List.setIfInBounds_toArray, List.set_cons_zero, List.set_cons_succ, List.getElem_toArray, List.getElem_cons_succ, List.getElem_cons_zero]
                    repeat (first
                      | (refine wpT_pure (v := ?_) rfl (by rfl) ?_ ?_
                         rotate_left 1
                         · (intro w; go_simp; try with_reducible rfl)
                         try simp only [Act.put, List.setIfInBounds_toArray, List.set_cons_zero, List.set_cons_succ, List.getElem_toArray, List.getElem_cons_succ, List.getElem_cons_zero]))
                    refine wpT_done ?_
                    go_wp2_with fail
                    go_meet
                    exact ⟨rfl, hqD.then (hkw6.then hk9)⟩
                case rest =>
                  obtain ⟨rfl, hk9⟩ := hcut
                  go_wp2_with fail
                  exact ⟨⟨i + 1, by omega, by simp, hk9⟩, by simp only [intOf]; omega⟩
                --END
              · have hik2 : k = i := by omega
                subst hik2
                have c1 : decide ((k : Int) < (k : Int)) = false := by simp
                go_wp2_with fail
                go_returns
                exact ⟨rfl, hk4'.then (hkR.then hq)⟩

end Go.Proofs.YtefcmijobbgpbaaGreatDoor
