/- The reader: operations of a level, one behind the other. Conditions: those of each theorem. -/
import Derived.Test.YtefcmijobbgpbaaGreatDoorExW
namespace Go.Proofs.YtefcmijobbgpbaaGreatDoor
open Go.RowKit

theorem lev_next {W : World} {R bk o n cap O g : Nat} {l : List TokR} (IH : LevIH W R bk o n cap O l g) (nn k deep : Nat) (w : World) (h5 : nn ≤ 5) (h : k < n) (hf : 8 * (n - 1 - k) + 7 - (nn + 1) ≤ g) (hd : deep ≤ 200) (hk : Keeps [] W w) (hr : RdAt w R bk o n cap O k deep) :
    Calls Tryz.prog 86 #[.pointer (some ⟨R, 0, none⟩), .int .i64 ((nn : Int) + 1)] w fun e w' => LevOut R bk o n cap O deep w.heap.size (runM l g none (nn + 1) k deep) e w' ∧ Keeps [R] w w' := IH (nn + 1) k deep w (by omega) h hf hd hk hr

theorem RdAt.grown {w w' : World} {R bk o n cap O k deep : Nat} {row : Option Nat} (h : RdAt w R bk o n cap O k deep) (hg : w.grownBy w' row) (hn : row ≠ some R) : RdAt w' R bk o n cap O k deep :=
  (hg.block R (heap_lt h) (fun e => hn e.symm)).trans h

set_option maxHeartbeats 8000000 in
set_option maxRecDepth 100000 in
theorem level_loop {W w : World} {R bk o n cap O k deep f nn : Nat} {l : List TokR} (c : RdCtx W R bk o n cap O l) (hk : Keeps [] W w) (hr : RdAt w R bk o n cap O k deep) (h : k < n) (hdp : deep ≤ 200) (hfu : 8 * (n - 1 - k) + 7 - nn ≤ f + 1) (IH : ∀ g, g ≤ f → LevIH W R bk o n cap O l g) (h5 : nn ≤ 5) (h2 : nn ≠ 2) :
    Calls Tryz.prog 86 #[.pointer (some ⟨R, 0, none⟩), .int .i64 nn] w fun e w' => LevOut R bk o n cap O deep w.heap.size (runM l (f + 1) none nn k deep) e w' ∧ Keeps [R] w w' := by
  have HC := Lib.hid c
  have HK := Lib.hid hk
  have HR := Lib.hid hr
  have HIH := Lib.hid IH
  have HDP := Lib.hid hdp
  have hRw : R < w.heap.size := heap_lt hr
  have HI1 := Lib.hid (lev_next (IH f (Nat.le_refl _)) nn k deep w h5 h (by omega) hdp hk hr)
  have HInf := fun w k hk hr h => Lib.hid (infix_any (W := W) (w := w) (k := k) (deep := deep) c hk hr h (nn : Int))
  have d1 : ((nn : Int) == 6) = false := by rw [beq_eq_false_iff_ne]; omega
  have d2 : ((nn : Int) == 2) = false := by rw [beq_eq_false_iff_ne]; omega
  have hmoves := fun {x k'} (hx : runM l f none (nn + 1) k deep = .ok x k') => runM_moves c.ends f none (nn + 1) k deep hx (by omega)
  have HF1 : Hid (∃ g, f = g + 1) := Lib.hid ⟨f - 1, by omega⟩
  have hn4 := c.few
  have HFU := Lib.hid hfu
  have HH := Lib.hid h
  have hn6 : nn ≠ 6 := by omega
  have HN62 := Lib.hid (And.intro hn6 h2)
  clear c hk hr IH hfu h hn6
  go_enter Tryz.func86, Tryz.ntmps86
  go_wp2_with fail
  refine HI1.out.mono ?_
  rintro e w1 ⟨hl, hk1⟩
  cases hx0 : runM l f none (nn + 1) k deep with
  | stuck a =>
    rw [hx0] at hl
    have hl := hl.stuck_form
    subst hl
    refine ⟨rfl, ?_, hk1⟩
    rw [runM_down_stuck HN62.out.1 HN62.out.2 hx0]
    rfl
  | ok x0 k0 =>
    rw [hx0] at hl
    obtain ⟨ao0, q0, cp0, rfl, hq0, hown0, hr0⟩ := hl.ok_form
    have hm0 := hmoves hx0
    have hkl : k0 < n := by omega
    have hql : q0 + k ≤ k0 := by have := hm0.2.2; omega
    have HST : Hid (∃ f', runM l (f + 1) none nn k deep = runM l (f' + 1) (some x0) nn k0 deep ∧ 8 * (n - 1 - k0) ≤ f' ∧ f' + 1 ≤ f ∧ x0.length = q0 ∧ w1.ownsRow w.heap.size 58 5 (.slice ao0 q0 cp0) q0 (partsRow x0) ∧ RdAt w1 R bk o n cap O k0 deep) := by
      obtain ⟨g, hg⟩ := HF1.out
      refine Lib.hid ⟨g, ?_, ?_, ?_, hq0, hown0, hr0⟩
      · rw [runM_down_ok HN62.out.1 HN62.out.2 hx0, hg]
      · have := HFU.out; have := hm0.2.1; omega
      · omega
    clear hl hx0 hq0 hown0 hr0 hm0 hmoves HI1 HF1
    go_wp2_with fail
    go_loopw [7] (fun v wr => ∃ (k' : Nat) (x : List PartR) (ao : Option Addr) (q cp : Nat), v = .slice ao q cp ∧ Hid (∃ f', runM l (f + 1) none nn k deep = runM l (f' + 1) (some x) nn k' deep ∧ 8 * (n - 1 - k') ≤ f' ∧ f' + 1 ≤ f ∧ x.length = q ∧ wr.ownsRow w.heap.size 58 5 (.slice ao q cp) q (partsRow x) ∧ RdAt wr R bk o n cap O k' deep) ∧ k' < n ∧ q + k ≤ k' ∧ Keeps [R] w wr) (fun _ wr => n - rdPos wr R)
    case atStart => exact ⟨k0, x0, ao0, q0, cp0, rfl, HST, hkl, hql, hk1⟩
    case round =>
      clear HST hkl hql hk1
      obtain ⟨k', x, ao, q, cp, rfl, hst, hkl, hql, hkr⟩ := hrel
      obtain ⟨f', hrun, hfu', hff, hxq, hown, hrr⟩ := hst.out
      have HRUN := Lib.hid hrun
      have HFU' := Lib.hid hfu'
      have HFF := Lib.hid hff
      have HXQ := Lib.hid hxq
      have HOW := Lib.hid hown
      have HRR := Lib.hid hrr
      have HPOS := Lib.hid (rdPos_at hrr)
      have hq4 : q ≤ 4097 := by omega
      have hk4 : k' ≤ 4097 := by omega
      have hRr : R < wr.heap.size := heap_lt hrr
      clear hst hrun hfu' hff hxq hown hrr
      go_wp2_with fail
      refine (HInf _ k' (HC.out.keep HK.out hkr) HRR.out hkl).out.mono ?_
      rintro e w3 ⟨hinf, hk3⟩
      rcases hinf with ⟨hnone, rfl⟩ | ⟨sg, kd, lv, o1, o2, is_, fq, hsome, rfl⟩
      · have HM := Lib.hid (HRUN.out.trans (runM_end hnone))
        have hka := hk3.alloc (.cells #[.string ⟨#[]⟩, .int .i64 0, .int .i64 0, .int .i64 0, .int .i64 0, .int .i64 0, .nilFunc] 105 (0, 0))
        clear hnone HRUN
        go_wp2_with fail
        go_returns
        refine ⟨?_, hkr.then hka⟩
        rw [HM.out]
        exact ⟨ao, q, cp, rfl, HXQ.out, own_kept HOW.out hka (by simp), HRR.out.keep hka⟩
      · have hkind := infix_word hsome
        have hk1n : k' + 1 < n := tok_lt HC.out hkl hkind
        have HSM := Lib.hid hsome
        have hka := hk3.alloc (.cells #[.string sg, .int .i64 kd, .int .i64 lv, .int .i64 o1, .int .i64 o2, .int .i64 is_, .func (.func fq) #[] #[]] 105 (0, 0))
        have hrA := HRR.out.keep hka
        obtain ⟨_, q1, _, _, zz1, _⟩ := rd_cells hrA
        have hne : ¬ R = w3.heap.size := by have := hk3.size; omega
        have hne2 : ¬ w3.heap.size = R := by have := hk3.size; omega
        have hkB : Keeps [R] w ((w3.alloc (.cells #[.string sg, .int .i64 kd, .int .i64 lv, .int .i64 o1, .int .i64 o2, .int .i64 is_, .func (.func fq) #[] #[]] 105 (0, 0))).setCell ⟨R, 1, none⟩ (.int .i64 ((k' : Int) + 1))) := (hkr.then hka).setCell (.inl (by simp)) _
        have hrB := hrA.at_
        have hownA := own_kept HOW.out hka (by simp)
        have hownB := own_set_other hownA (a := ⟨R, 1, none⟩) (.int .i64 ((k' : Int) + 1)) (fun hb => by have h1 : w.heap.size ≤ R := own_ge hownA hb; omega)
        have hkC := hkB.alloc (.cells #[.int .i64 kd, .int .i64 0, .string ⟨#[]⟩, .string ⟨#[]⟩, .int .i64 0] 58 (0, 0))
        have hownC := own_kept hownB ((Keeps.refl [] _).alloc (.cells #[.int .i64 kd, .int .i64 0, .string ⟨#[]⟩, .string ⟨#[]⟩, .int .i64 0] 58 (0, 0))) (by simp)
        have hrC := hrB.keep ((Keeps.refl [] _).alloc (.cells #[.int .i64 kd, .int .i64 0, .string ⟨#[]⟩, .string ⟨#[]⟩, .int .i64 0] 58 (0, 0)))
        have hw5 : w.heap.size ≤ w3.heap.size := (hkr.then hk3).size
        have hsz : ((w3.alloc (.cells #[.string sg, .int .i64 kd, .int .i64 lv, .int .i64 o1, .int .i64 o2, .int .i64 is_, .func (.func fq) #[] #[]] 105 (0, 0))).setCell ⟨R, 1, none⟩ (.int .i64 ((k' : Int) + 1))).heap.size = w3.heap.size + 1 := by simp
        have hon : (((w3.alloc (.cells #[.string sg, .int .i64 kd, .int .i64 lv, .int .i64 o1, .int .i64 o2, .int .i64 is_, .func (.func fq) #[] #[]] 105 (0, 0))).setCell ⟨R, 1, none⟩ (.int .i64 ((k' : Int) + 1))).alloc (.cells #[.int .i64 kd, .int .i64 0, .string ⟨#[]⟩, .string ⟨#[]⟩, .int .i64 0] 58 (0, 0))).ownsRow w.heap.size 58 5 (.slice (some ⟨w3.heap.size + 1, 0, none⟩) 1 1) 1 [.int .i64 kd, .int .i64 0, .string ⟨#[]⟩, .string ⟨#[]⟩, .int .i64 0] := by
          rw [← hsz]
          exact own_mono (own_new _ #[.int .i64 kd, .int .i64 0, .string ⟨#[]⟩, .string ⟨#[]⟩, .int .i64 0] 58 5 1 rfl (by decide)) (by rw [hsz]; omega)
        have HOC := Lib.hid hownC
        have HON := Lib.hid hon
        have HRC := Lib.hid hrC
        have hkCs := hkC.size
        clear hsome hownA hownB hownC hrA hrB hrC hon hsz hkind
        go_wp2_with (at_builtin; refine list_append_any rtPart (by rfl) _ _ (by rfl) w.heap.size (.slice (some ⟨w3.heap.size + 1, 0, none⟩) 1 1) 1 [.int .i64 kd, .int .i64 0, .string ⟨#[]⟩, .string ⟨#[]⟩, .int .i64 0] (by rfl) HON.out _ q (partsRow x) (by rfl) (SlC.of_own HOC.out) (partsRow_cell x) (by omega) (by unfold maxLen; omega) hkCs ?_; intro ao1 cp1 w6 hown1 hgrow _ _; have hk6 := hkC.grown hgrow (fun b hb => .inr (own_ge HON.out hb)); have hr6 := HRC.out.grown hgrow (fun hb => by have h1 : w.heap.size ≤ R := own_ge HON.out hb; omega); have HO6 : Hid (w6.ownsRow w.heap.size 58 5 (.slice ao1 (1 + q) cp1) (1 + q) (partsRow (opP kd :: x))) := Lib.hid hown1; have HR6 := Lib.hid hr6; have HK6 := Lib.hid hk6; clear hown1 hgrow hr6 hk6)
        have hf8 : 8 * (n - 1 - (k' + 1)) + 7 - (nn + 1) ≤ f' := by have := HFU'.out; omega
        refine (lev_next (HIH.out f' (by have := HFF.out; omega)) nn (k' + 1) deep _ h5 hk1n hf8 HDP.out (HC.out.keep HK.out HK6.out) HR6.out).mono ?_
        rintro e w7 ⟨hl, hk7⟩
        have hkE := HK6.out.trans hk7 (fun x hx _ => hx)
        cases hy : runM l f' none (nn + 1) (k' + 1) deep with
        | stuck a =>
          rw [hy] at hl
          have hl := hl.stuck_form
          subst hl
          refine ⟨rfl, ?_, hkE⟩
          rw [HRUN.out, runM_op_stuck HSM.out hy]
          rfl
        | ok y k2 =>
          rw [hy] at hl
          obtain ⟨ao2, q2, cp2, rfl, hq2, hown2, hr7⟩ := hl.ok_form
          have hmv := runM_moves HC.out.ends f' none (nn + 1) (k' + 1) deep hy (by omega)
          have hk2n : k2 < n := by omega
          have hmv2 : k' + 1 < k2 ∧ y.length + (k' + 1) ≤ k2 := hmv.2
          have hq24 : q2 ≤ 4097 := by rw [← hq2]; omega
          have HQ2 := Lib.hid hq2
          have HY := Lib.hid hy
          have HO7 := Lib.hid (own_kept HO6.out hk7 (fun b hb => by have h1 : w.heap.size ≤ b := own_ge HO6.out hb; simp; omega))
          have HOY := Lib.hid hown2
          have HR7 := Lib.hid hr7
          have hkEs := hkE.size
          have hsum : 1 + q + q2 + k ≤ k2 := by rw [← hq2]; omega
          clear hl hq2 hown2 hr7 hy hmv
          by_cases h3 : nn = 3
          · have HM := Lib.hid (HRUN.out.trans (by subst h3; exact runM_op_three HSM.out HY.out))
            have d3 : ((nn : Int) == 3) = true := by rw [h3]; rfl
            clear h3
            go_wp2_with (at_builtin; refine list_append_any rtPart (by rfl) _ _ (by rfl) w.heap.size (.slice ao1 (1 + q) cp1) (1 + q) (partsRow (opP kd :: x)) (by rfl) HO7.out _ q2 (partsRow y) (by rfl) (SlC.of_own HOY.out) (partsRow_cell y) (by omega) (by unfold maxLen; omega) hkEs ?_; intro ao3 cp3 w8 hown8 hgrow8 _ _; have hk8 := hkE.grown hgrow8 (fun b hb => .inr (own_ge HO7.out hb)); have hr8 := HR7.out.grown hgrow8 (fun hb => by have h1 : w.heap.size ≤ R := own_ge HO7.out hb; omega); have HO8 : Hid (w8.ownsRow w.heap.size 58 5 (.slice ao3 (1 + q + q2) cp3) (1 + q + q2) (partsRow (opP kd :: (x ++ y)))) := Lib.hid (by rw [partsRow_one, partsRow_app, ← List.append_assoc]; exact hown8); have HR8 := Lib.hid hr8; have HK8 := Lib.hid hk8; clear hown8 hgrow8 hr8 hk8)
            go_returns
            refine ⟨?_, HK8.out⟩
            rw [HM.out]
            exact ⟨ao3, 1 + q + q2, cp3, rfl, by simp [HXQ.out, HQ2.out]; omega, HO8.out, HR8.out⟩
          · have HM := Lib.hid (HRUN.out.trans (runM_op_more HSM.out h3 HY.out))
            have d3 : ((nn : Int) == 3) = false := by rw [beq_eq_false_iff_ne]; omega
            clear h3
            go_wp2_with (at_builtin; refine list_append_any rtPart (by rfl) _ _ (by rfl) w.heap.size (.slice ao1 (1 + q) cp1) (1 + q) (partsRow (opP kd :: x)) (by rfl) HO7.out _ q2 (partsRow y) (by rfl) (SlC.of_own HOY.out) (partsRow_cell y) (by omega) (by unfold maxLen; omega) hkEs ?_; intro ao3 cp3 w8 hown8 hgrow8 _ _; have hk8 := hkE.grown hgrow8 (fun b hb => .inr (own_ge HO7.out hb)); have hr8 := HR7.out.grown hgrow8 (fun hb => by have h1 : w.heap.size ≤ R := own_ge HO7.out hb; omega); have HO8 : Hid (w8.ownsRow w.heap.size 58 5 (.slice ao3 (1 + q + q2) cp3) (1 + q + q2) (partsRow (opP kd :: (x ++ y)))) := Lib.hid (by rw [partsRow_one, partsRow_app, ← List.append_assoc]; exact hown8); have HR8 := Lib.hid hr8; have HK8 := Lib.hid hk8; clear hown8 hgrow8 hr8 hk8)
            refine ⟨⟨k2, opP kd :: (x ++ y), ao3, 1 + q + q2, cp3, rfl, Lib.hid ⟨f' - 1, ?_, ?_, ?_, ?_, HO8.out, HR8.out⟩, hk2n, hsum, HK8.out⟩, ?_⟩
            · rw [HM.out]
              have : f' - 1 + 1 = f' := by have := HFU'.out; omega
              rw [this]
            · have := HFU'.out; omega
            · have := HFF.out; omega
            · simp [HXQ.out, HQ2.out]; omega
            · rw [rdPos_at HR8.out, HPOS.out]; omega

/-- Every level, with fuel enough. -/
theorem level_any {W : World} {R bk o n cap O : Nat} {l : List TokR} (c : RdCtx W R bk o n cap O l) : ∀ (f : Nat), LevIH W R bk o n cap O l f := by
  intro f
  induction f using Nat.strongRecOn with
  | _ f ih =>
    intro nn k deep w h6 h hfu hdp hk hr
    cases f with
    | zero => omega
    | succ f =>
      have IH : ∀ g, g ≤ f → LevIH W R bk o n cap O l g := fun g hg => ih g (by omega)
      by_cases e6 : nn = 6
      · subst e6
        exact level_six c hk hr h hdp hfu IH
      · by_cases e2 : nn = 2
        · subst e2
          cases hs : isWordT (tokAt l k) bNot with
          | false => exact level_pass c hk hr h hdp hfu IH hs
          | true =>
            by_cases hd : 200 < deep + 1
            · exact level_not_over c hk hr h hdp hfu IH hs hd
            · cases hx : runM l f none 2 (k + 1) (deep + 1) with
              | stuck a => exact level_not_stuck c hk hr h hdp hfu IH hs (by omega) hx
              | ok x k' => exact level_not_ok c hk hr h hdp hfu IH hs (by omega) hx
        · exact level_loop c hk hr h hdp hfu IH (by omega) e2

end Go.Proofs.YtefcmijobbgpbaaGreatDoor
