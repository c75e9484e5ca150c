/- The reader: an expression that binds at least so much. Conditions: those of each theorem. -/
import Derived.Test.YtefcmijobbgpbaaGreatDoorExV
import Derived.Test.YtefcmijobbgpbaaGreatDoorExL
namespace Go.Proofs.YtefcmijobbgpbaaGreatDoor
open Go.RowKit

def rdPos (w : World) (R : Nat) : Nat := match w.cell? ⟨R, 1, none⟩ with
  | some (.int _ i) => i.toNat
  | _ => 0

theorem rdPos_at {w : World} {R bk o n cap O k deep : Nat} (h : RdAt w R bk o n cap O k deep) : rdPos w R = k := by
  unfold rdPos
  rw [(rd_cells h).2.1]
  simp

theorem partsRow_one (p : PartR) (l : List PartR) : partsRow (p :: l) = partRow p ++ partsRow l := rfl
theorem partsRow_app (l l' : List PartR) : partsRow (l ++ l') = partsRow l ++ partsRow l' := by simp [partsRow]
theorem partsRow_cell (l : List PartR) : ∀ u ∈ partsRow l, u.oneCell' = true := by
  intro u hu
  simp only [partsRow, List.mem_flatMap, partRow, List.mem_cons, List.not_mem_nil, or_false] at hu
  obtain ⟨x, _, h⟩ := hu
  rcases h with rfl | rfl | rfl | rfl | rfl <;> rfl

theorem runM_not_over {l : List TokR} {f k deep : Nat} (h : isWordT (tokAt l k) bNot = true) (hd : 200 < deep + 1) : runM l (f + 1) none 2 k deep = .stuck (tokAt l (k + 1)).at_ := by
  rw [runM, if_neg (by decide), if_pos rfl, if_pos h, if_pos hd]
theorem runM_not_stuck {l : List TokR} {f k deep : Nat} {a : Int} (h : isWordT (tokAt l k) bNot = true) (hd : ¬ 200 < deep + 1) (hx : runM l f none 2 (k + 1) (deep + 1) = .stuck a) : runM l (f + 1) none 2 k deep = .stuck a := by
  rw [runM, if_neg (by decide), if_pos rfl, if_pos h, if_neg hd, hx]
theorem runM_not_ok {l : List TokR} {f k k' deep : Nat} {x : List PartR} (h : isWordT (tokAt l k) bNot = true) (hd : ¬ 200 < deep + 1) (hx : runM l f none 2 (k + 1) (deep + 1) = .ok x k') : runM l (f + 1) none 2 k deep = .ok (opP 13 :: x) k' := by
  rw [runM, if_neg (by decide), if_pos rfl, if_pos h, if_neg hd, hx]
theorem runM_pass {l : List TokR} {f k deep : Nat} (h : isWordT (tokAt l k) bNot = false) : runM l (f + 1) none 2 k deep = runM l f none 3 k deep := by
  rw [runM, if_neg (by decide), if_pos rfl, if_neg (by rw [h]; simp)]
theorem runM_down_stuck {l : List TokR} {f n k deep : Nat} {a : Int} (h6 : n ≠ 6) (h2 : n ≠ 2) (hx : runM l f none (n + 1) k deep = .stuck a) : runM l (f + 1) none n k deep = .stuck a := by
  rw [runM, if_neg h6, if_neg h2, hx]
theorem runM_down_ok {l : List TokR} {f n k k' deep : Nat} {x : List PartR} (h6 : n ≠ 6) (h2 : n ≠ 2) (hx : runM l f none (n + 1) k deep = .ok x k') : runM l (f + 1) none n k deep = runM l f (some x) n k' deep := by
  rw [runM, if_neg h6, if_neg h2, hx]
theorem runM_end {l : List TokR} {f n k deep : Nat} {x : List PartR} (h : infixM n (tokAt l k) = none) : runM l (f + 1) (some x) n k deep = .ok x k := by
  rw [runM, h]
theorem runM_op_stuck {l : List TokR} {f n k deep : Nat} {x : List PartR} {kd a : Int} (h : infixM n (tokAt l k) = some kd) (hy : runM l f none (n + 1) (k + 1) deep = .stuck a) : runM l (f + 1) (some x) n k deep = .stuck a := by
  rw [runM, h]
  simp only [hy]
theorem runM_op_three {l : List TokR} {f k k' deep : Nat} {x y : List PartR} {kd : Int} (h : infixM 3 (tokAt l k) = some kd) (hy : runM l f none 4 (k + 1) deep = .ok y k') : runM l (f + 1) (some x) 3 k deep = .ok (opP kd :: (x ++ y)) k' := by
  have h' : infixM ((3 : Nat) : Int) (tokAt l k) = some kd := h
  rw [runM, h']
  simp only [hy, if_pos]
theorem runM_op_more {l : List TokR} {f n k k' deep : Nat} {x y : List PartR} {kd : Int} (h : infixM n (tokAt l k) = some kd) (h3 : n ≠ 3) (hy : runM l f none (n + 1) (k + 1) deep = .ok y k') : runM l (f + 1) (some x) n k deep = runM l f (some (opP kd :: (x ++ y))) n k' deep := by
  rw [runM, h]
  simp only [hy, if_neg h3]

set_option maxHeartbeats 4000000 in
set_option maxRecDepth 100000 in
theorem level_six {W w : World} {R bk o n cap O k deep f : Nat} {l : List TokR} (c : RdCtx W R bk o n cap O l) (hk : Keeps [] W w) (hr : RdAt w R bk o n cap O k deep) (h : k < n) (hdp : deep ≤ 200) (hfu : 8 * (n - 1 - k) + 7 - 6 ≤ f + 1) (IH : ∀ g, g ≤ f → LevIH W R bk o n cap O l g)  :
    Calls Tryz.prog 86 #[.pointer (some ⟨R, 0, none⟩), .int .i64 6] w fun e w' => LevOut R bk o n cap O deep w.heap.size (runM l (f + 1) none 6 k deep) e w' ∧ Keeps [R] w w' := by
  have HLf := Lib.hid (leaf_any c hk hr h hdp (f := f) (by omega) (IH f (Nat.le_refl _)))
  clear c hk hr h IH hfu
  go_enter Tryz.func86, Tryz.ntmps86
  go_wp2_with fail
  refine HLf.out.mono ?_
  rintro e w3 ⟨hl, hk3⟩
  cases hx : runM l (f + 1) none 6 k deep with
  | ok x k' =>
    rw [hx] at hl
    obtain ⟨ao, q, cp, rfl, hq, hown, hr3⟩ := hl.ok_form
    have HX := Lib.hid hx
    have HOW := Lib.hid hown
    have HR3 := Lib.hid hr3
    clear hl hx hown hr3
    go_wp2_with fail
    go_returns
    refine ⟨?_, hk3⟩
    rw [HX.out]
    exact ⟨ao, q, cp, rfl, hq, own_mono HOW.out (Keeps.refl [] w).size, HR3.out⟩
  | stuck a =>
    rw [hx] at hl
    have hl := hl.stuck_form
    subst hl
    refine ⟨rfl, ?_, hk3⟩
    rw [hx]
    rfl

set_option maxHeartbeats 4000000 in
set_option maxRecDepth 100000 in
theorem level_pass {W w : World} {R bk o n cap O k deep f : Nat} {l : List TokR} (c : RdCtx W R bk o n cap O l) (hk : Keeps [] W w) (hr : RdAt w R bk o n cap O k deep) (h : k < n) (hdp : deep ≤ 200) (hfu : 8 * (n - 1 - k) + 7 - 2 ≤ f + 1) (IH : ∀ g, g ≤ f → LevIH W R bk o n cap O l g) (hs : isWordT (tokAt l k) bNot = false) :
    Calls Tryz.prog 86 #[.pointer (some ⟨R, 0, none⟩), .int .i64 2] w fun e w' => LevOut R bk o n cap O deep w.heap.size (runM l (f + 1) none 2 k deep) e w' ∧ Keeps [R] w w' := by
  have HNow := fun w k hk hr h => Lib.hid (now_any (W := W) (w := w) (k := k) (deep := deep) c hk hr h)
  have HFit := fun w k hr hd => Lib.hid (down_fit (W := W) (w := w) (k := k) (deep := deep) c hr hd)
  have HOver := fun w k hk hr h hd hd2 => Lib.hid (down_over (W := W) (w := w) (k := k) (deep := deep) c hk hr h hd hd2)
  simp only [stuckAt] at HOver
  simp only [tokAgg_eq] at HNow
  have HC := Lib.hid c
  have HK := Lib.hid hk
  have HR := Lib.hid hr
  have HL := Lib.hid h
  have HIH := Lib.hid (IH f (Nat.le_refl _))
  have HFU := Lib.hid hfu
  have HDP := Lib.hid hdp
  have h63 : k ≤ 4097 := by have := c.few; omega
  have hRw : R < w.heap.size := heap_lt hr
  have HW : Hid (isWordT (tokAt l k) bNot = (decide ((tokAt l k).kind = 1) && decide ((tokAt l k).s.toList = [110, 111, 116]))) := Lib.hid (by simp only [isWordT, ByteArray.toList_eq]; rfl)
  have HM := Lib.hid (runM_pass (f := f) (deep := deep) hs)
  have HS := Lib.hid hs
  clear c hk hr h IH hfu
  go_enter Tryz.func86, Tryz.ntmps86
  go_wp2_with fail
  refine (HNow w k HK.out HR.out HL.out).out.mono ?_
  rintro e w2 ⟨rfl, hk2⟩
  obtain ⟨tk, ts, tn, ta, ht⟩ : ∃ tk ts tn ta, tokAt l k = ⟨tk, ts, tn, ta⟩ := ⟨_, _, _, _, rfl⟩
  rw [ht]
  have hw := HW.out
  rw [hs] at hw
  simp only [ht] at hw
  have HT := Lib.hid ht
  have hka := hk2.alloc (.cells #[.int .i64 tk, .string ts, .int .i64 tn, .int .i64 ta] 91 (0, 0))
  have hrA := HR.out.keep hka
  obtain ⟨_, q1, _, _, zz1, _⟩ := rd_cells hrA
  have HRA := Lib.hid hrA
  have hne : ¬ R = w2.heap.size := by have := hk2.size; omega
  have hne2 : ¬ w2.heap.size = R := by have := hk2.size; omega
  clear ht hrA
  have hcase : ¬ tk = 1 ∨ (tk = 1 ∧ ¬ ts.toList = [110, 111, 116]) := by
    by_cases h1 : tk = 1
    · right
      refine ⟨h1, fun h2 => ?_⟩
      rw [decide_eq_true h1, decide_eq_true h2] at hw
      cases hw
    · exact .inl h1
  clear hw hs
  rcases hcase with h1 | ⟨h1, h2⟩
  · have d1 : (tk == 1) = false := by rw [beq_eq_false_iff_ne]; exact h1
    clear h1
    go_wp2_with fail
    refine (HIH.out 3 k deep _ (by omega) HL.out (by have := HFU.out; omega) HDP.out (HK.out.then hka) HRA.out).mono ?_
    rintro e w3 ⟨hl, hk3⟩
    have hkb := (hka.mono (by simp) : Keeps [R] w _).trans hk3 (fun x hx _ => hx)
    cases hx : runM l f none 3 k deep with
    | ok x k' =>
      rw [hx] at hl
      obtain ⟨ao, q, cp, rfl, hq, hown, hr3⟩ := hl.ok_form
      have HX := Lib.hid hx
      have HOW := Lib.hid hown
      have HR3 := Lib.hid hr3
      clear hl hx hown hr3
      go_wp2_with fail
      go_returns
      refine ⟨?_, hkb⟩
      rw [HM.out, HX.out]
      exact ⟨ao, q, cp, rfl, hq, own_mono HOW.out (hka).size, HR3.out⟩
    | stuck a =>
      rw [hx] at hl
      have hl := hl.stuck_form
      subst hl
      refine ⟨rfl, ?_, hkb⟩
      rw [HM.out, hx]
      rfl
  · subst h1
    have d1 : (ts.toList == [110, 111, 116]) = false := by rw [beq_eq_false_iff_ne]; exact h2
    clear h2
    go_wp2_with fail
    refine (HIH.out 3 k deep _ (by omega) HL.out (by have := HFU.out; omega) HDP.out (HK.out.then hka) HRA.out).mono ?_
    rintro e w3 ⟨hl, hk3⟩
    have hkb := (hka.mono (by simp) : Keeps [R] w _).trans hk3 (fun x hx _ => hx)
    cases hx : runM l f none 3 k deep with
    | ok x k' =>
      rw [hx] at hl
      obtain ⟨ao, q, cp, rfl, hq, hown, hr3⟩ := hl.ok_form
      have HX := Lib.hid hx
      have HOW := Lib.hid hown
      have HR3 := Lib.hid hr3
      clear hl hx hown hr3
      go_wp2_with fail
      go_returns
      refine ⟨?_, hkb⟩
      rw [HM.out, HX.out]
      exact ⟨ao, q, cp, rfl, hq, own_mono HOW.out (hka).size, HR3.out⟩
    | stuck a =>
      rw [hx] at hl
      have hl := hl.stuck_form
      subst hl
      refine ⟨rfl, ?_, hkb⟩
      rw [HM.out, hx]
      rfl

set_option maxHeartbeats 4000000 in
set_option maxRecDepth 100000 in
theorem level_not_over {W w : World} {R bk o n cap O k deep f : Nat} {l : List TokR} (c : RdCtx W R bk o n cap O l) (hk : Keeps [] W w) (hr : RdAt w R bk o n cap O k deep) (h : k < n) (hdp : deep ≤ 200) (hfu : 8 * (n - 1 - k) + 7 - 2 ≤ f + 1) (IH : ∀ g, g ≤ f → LevIH W R bk o n cap O l g) (hs : isWordT (tokAt l k) bNot = true) (hd : 200 < deep + 1) :
    Calls Tryz.prog 86 #[.pointer (some ⟨R, 0, none⟩), .int .i64 2] w fun e w' => LevOut R bk o n cap O deep w.heap.size (runM l (f + 1) none 2 k deep) e w' ∧ Keeps [R] w w' := by
  have HNow := fun w k hk hr h => Lib.hid (now_any (W := W) (w := w) (k := k) (deep := deep) c hk hr h)
  have HFit := fun w k hr hd => Lib.hid (down_fit (W := W) (w := w) (k := k) (deep := deep) c hr hd)
  have HOver := fun w k hk hr h hd hd2 => Lib.hid (down_over (W := W) (w := w) (k := k) (deep := deep) c hk hr h hd hd2)
  simp only [stuckAt] at HOver
  simp only [tokAgg_eq] at HNow
  have HC := Lib.hid c
  have HK := Lib.hid hk
  have HR := Lib.hid hr
  have HL := Lib.hid h
  have HIH := Lib.hid (IH f (Nat.le_refl _))
  have HFU := Lib.hid hfu
  have HDP := Lib.hid hdp
  have h63 : k ≤ 4097 := by have := c.few; omega
  have hRw : R < w.heap.size := heap_lt hr
  have HW : Hid (isWordT (tokAt l k) bNot = (decide ((tokAt l k).kind = 1) && decide ((tokAt l k).s.toList = [110, 111, 116]))) := Lib.hid (by simp only [isWordT, ByteArray.toList_eq]; rfl)
  have HM := Lib.hid (runM_not_over (f := f) hs hd)
  have hn1 := tok_lt c h (word_kind hs)
  have HL1 := Lib.hid hn1
  have HD := Lib.hid hd
  have HS := Lib.hid hs
  clear c hk hr h IH hfu hn1 hd
  go_enter Tryz.func86, Tryz.ntmps86
  go_wp2_with fail
  refine (HNow w k HK.out HR.out HL.out).out.mono ?_
  rintro e w2 ⟨rfl, hk2⟩
  obtain ⟨tk, ts, tn, ta, ht⟩ : ∃ tk ts tn ta, tokAt l k = ⟨tk, ts, tn, ta⟩ := ⟨_, _, _, _, rfl⟩
  rw [ht]
  have hw := HW.out
  rw [hs] at hw
  simp only [ht] at hw
  have HT := Lib.hid ht
  have hka := hk2.alloc (.cells #[.int .i64 tk, .string ts, .int .i64 tn, .int .i64 ta] 91 (0, 0))
  have hrA := HR.out.keep hka
  obtain ⟨_, q1, _, _, zz1, _⟩ := rd_cells hrA
  have HRA := Lib.hid hrA
  have hne : ¬ R = w2.heap.size := by have := hk2.size; omega
  have hne2 : ¬ w2.heap.size = R := by have := hk2.size; omega
  clear ht hrA
  have h1 : tk = 1 := by
    by_cases h1 : tk = 1
    · exact h1
    · rw [decide_eq_false h1] at hw; cases hw
  have h2 : ts.toList = [110, 111, 116] := by
    by_cases h2 : ts.toList = [110, 111, 116]
    · exact h2
    · rw [decide_eq_false h2, Bool.and_false] at hw; cases hw
  clear hw hs
  have h3 : ts = ⟨#[110, 111, 116]⟩ := ba_eq (by rw [← ByteArray.toList_eq]; exact h2)
  clear h2
  subst h1 h3
  go_wp2_with fail
  have hkb : Keeps [R] w ((w2.alloc (.cells #[.int .i64 1, .string ⟨#[110, 111, 116]⟩, .int .i64 tn, .int .i64 ta] 91 (0, 0))).setCell ⟨R, 1, none⟩ (.int .i64 ((k : Int) + 1))) := (hka.mono (by simp)).setCell (.inl (by simp)) _
  have hr3 := HRA.out.at_
  refine (HOver _ (k + 1) (HC.out.keep HK.out hkb) hr3 HL1.out HD.out HDP.out).out.mono ?_
  rintro e w4 ⟨rfl, hk4⟩
  refine ⟨rfl, ?_, hkb.trans hk4 (fun x hx _ => hx)⟩
  rw [HM.out]
  rfl

set_option maxHeartbeats 4000000 in
set_option maxRecDepth 100000 in
theorem level_not_stuck {W w : World} {R bk o n cap O k deep f : Nat} {l : List TokR} (c : RdCtx W R bk o n cap O l) (hk : Keeps [] W w) (hr : RdAt w R bk o n cap O k deep) (h : k < n) (hdp : deep ≤ 200) (hfu : 8 * (n - 1 - k) + 7 - 2 ≤ f + 1) (IH : ∀ g, g ≤ f → LevIH W R bk o n cap O l g) (hs : isWordT (tokAt l k) bNot = true) (hd : deep + 1 ≤ 200) {a : Int} (hx : runM l f none 2 (k + 1) (deep + 1) = .stuck a) :
    Calls Tryz.prog 86 #[.pointer (some ⟨R, 0, none⟩), .int .i64 2] w fun e w' => LevOut R bk o n cap O deep w.heap.size (runM l (f + 1) none 2 k deep) e w' ∧ Keeps [R] w w' := by
  have HNow := fun w k hk hr h => Lib.hid (now_any (W := W) (w := w) (k := k) (deep := deep) c hk hr h)
  have HFit := fun w k hr hd => Lib.hid (down_fit (W := W) (w := w) (k := k) (deep := deep) c hr hd)
  have HOver := fun w k hk hr h hd hd2 => Lib.hid (down_over (W := W) (w := w) (k := k) (deep := deep) c hk hr h hd hd2)
  simp only [stuckAt] at HOver
  simp only [tokAgg_eq] at HNow
  have HC := Lib.hid c
  have HK := Lib.hid hk
  have HR := Lib.hid hr
  have HL := Lib.hid h
  have HIH := Lib.hid (IH f (Nat.le_refl _))
  have HFU := Lib.hid hfu
  have HDP := Lib.hid hdp
  have h63 : k ≤ 4097 := by have := c.few; omega
  have hRw : R < w.heap.size := heap_lt hr
  have HW : Hid (isWordT (tokAt l k) bNot = (decide ((tokAt l k).kind = 1) && decide ((tokAt l k).s.toList = [110, 111, 116]))) := Lib.hid (by simp only [isWordT, ByteArray.toList_eq]; rfl)
  have HM := Lib.hid (runM_not_stuck hs (by omega) hx)
  have HX := Lib.hid hx
  have hn1 := tok_lt c h (word_kind hs)
  have HL1 := Lib.hid hn1
  have HD := Lib.hid hd
  have HS := Lib.hid hs
  clear c hk hr h IH hfu hn1 hd hx
  go_enter Tryz.func86, Tryz.ntmps86
  go_wp2_with fail
  refine (HNow w k HK.out HR.out HL.out).out.mono ?_
  rintro e w2 ⟨rfl, hk2⟩
  obtain ⟨tk, ts, tn, ta, ht⟩ : ∃ tk ts tn ta, tokAt l k = ⟨tk, ts, tn, ta⟩ := ⟨_, _, _, _, rfl⟩
  rw [ht]
  have hw := HW.out
  rw [hs] at hw
  simp only [ht] at hw
  have HT := Lib.hid ht
  have hka := hk2.alloc (.cells #[.int .i64 tk, .string ts, .int .i64 tn, .int .i64 ta] 91 (0, 0))
  have hrA := HR.out.keep hka
  obtain ⟨_, q1, _, _, zz1, _⟩ := rd_cells hrA
  have HRA := Lib.hid hrA
  have hne : ¬ R = w2.heap.size := by have := hk2.size; omega
  have hne2 : ¬ w2.heap.size = R := by have := hk2.size; omega
  clear ht hrA
  have h1 : tk = 1 := by
    by_cases h1 : tk = 1
    · exact h1
    · rw [decide_eq_false h1] at hw; cases hw
  have h2 : ts.toList = [110, 111, 116] := by
    by_cases h2 : ts.toList = [110, 111, 116]
    · exact h2
    · rw [decide_eq_false h2, Bool.and_false] at hw; cases hw
  clear hw hs
  have h3 : ts = ⟨#[110, 111, 116]⟩ := ba_eq (by rw [← ByteArray.toList_eq]; exact h2)
  clear h2
  subst h1 h3
  go_wp2_with fail
  have hkb : Keeps [R] w ((w2.alloc (.cells #[.int .i64 1, .string ⟨#[110, 111, 116]⟩, .int .i64 tn, .int .i64 ta] 91 (0, 0))).setCell ⟨R, 1, none⟩ (.int .i64 ((k : Int) + 1))) := (hka.mono (by simp)).setCell (.inl (by simp)) _
  have hr3 := HRA.out.at_
  refine (HFit _ (k + 1) hr3 HD.out).out.mono ?_
  rintro e w4 ⟨rfl, hr4, hk4⟩
  have hkc := hkb.trans hk4 (fun x hx _ => hx)
  have HR4 := Lib.hid hr4
  clear hr4 hr3
  go_wp2_with fail
  refine (HIH.out 2 (k + 1) (deep + 1) _ (by omega) HL1.out (by have := HFU.out; have := HL1.out; omega) HD.out (HC.out.keep HK.out hkc) HR4.out).mono ?_
  rintro e w5 ⟨hl, hk5⟩
  have hkd := hkc.trans hk5 (fun x hx _ => hx)
  rw [HX.out] at hl
  have hl := hl.stuck_form
  subst hl
  refine ⟨rfl, ?_, hkd⟩
  rw [HM.out]
  rfl

set_option maxHeartbeats 4000000 in
set_option maxRecDepth 100000 in
theorem level_not_ok {W w : World} {R bk o n cap O k deep f : Nat} {l : List TokR} (c : RdCtx W R bk o n cap O l) (hk : Keeps [] W w) (hr : RdAt w R bk o n cap O k deep) (h : k < n) (hdp : deep ≤ 200) (hfu : 8 * (n - 1 - k) + 7 - 2 ≤ f + 1) (IH : ∀ g, g ≤ f → LevIH W R bk o n cap O l g) (hs : isWordT (tokAt l k) bNot = true) (hd : deep + 1 ≤ 200) {x : List PartR} {k' : Nat} (hx : runM l f none 2 (k + 1) (deep + 1) = .ok x k') :
    Calls Tryz.prog 86 #[.pointer (some ⟨R, 0, none⟩), .int .i64 2] w fun e w' => LevOut R bk o n cap O deep w.heap.size (runM l (f + 1) none 2 k deep) e w' ∧ Keeps [R] w w' := by
  have HNow := fun w k hk hr h => Lib.hid (now_any (W := W) (w := w) (k := k) (deep := deep) c hk hr h)
  have HFit := fun w k hr hd => Lib.hid (down_fit (W := W) (w := w) (k := k) (deep := deep) c hr hd)
  have HOver := fun w k hk hr h hd hd2 => Lib.hid (down_over (W := W) (w := w) (k := k) (deep := deep) c hk hr h hd hd2)
  simp only [stuckAt] at HOver
  simp only [tokAgg_eq] at HNow
  have HC := Lib.hid c
  have HK := Lib.hid hk
  have HR := Lib.hid hr
  have HL := Lib.hid h
  have HIH := Lib.hid (IH f (Nat.le_refl _))
  have HFU := Lib.hid hfu
  have HDP := Lib.hid hdp
  have h63 : k ≤ 4097 := by have := c.few; omega
  have hRw : R < w.heap.size := heap_lt hr
  have HW : Hid (isWordT (tokAt l k) bNot = (decide ((tokAt l k).kind = 1) && decide ((tokAt l k).s.toList = [110, 111, 116]))) := Lib.hid (by simp only [isWordT, ByteArray.toList_eq]; rfl)
  have HM := Lib.hid (runM_not_ok hs (by omega) hx)
  have HX := Lib.hid hx
  have hn1 := tok_lt c h (word_kind hs)
  have HL1 := Lib.hid hn1
  have HD := Lib.hid hd
  have HS := Lib.hid hs
  have hmv := runM_moves c.ends f none 2 (k + 1) (deep + 1) hx (by omega)
  have hxl : x.length ≤ 4097 := by have := c.few; omega
  have HMV := Lib.hid hmv
  clear c hk hr h IH hfu hn1 hd hx hmv
  go_enter Tryz.func86, Tryz.ntmps86
  go_wp2_with fail
  refine (HNow w k HK.out HR.out HL.out).out.mono ?_
  rintro e w2 ⟨rfl, hk2⟩
  obtain ⟨tk, ts, tn, ta, ht⟩ : ∃ tk ts tn ta, tokAt l k = ⟨tk, ts, tn, ta⟩ := ⟨_, _, _, _, rfl⟩
  rw [ht]
  have hw := HW.out
  rw [hs] at hw
  simp only [ht] at hw
  have HT := Lib.hid ht
  have hka := hk2.alloc (.cells #[.int .i64 tk, .string ts, .int .i64 tn, .int .i64 ta] 91 (0, 0))
  have hrA := HR.out.keep hka
  obtain ⟨_, q1, _, _, zz1, _⟩ := rd_cells hrA
  have HRA := Lib.hid hrA
  have hne : ¬ R = w2.heap.size := by have := hk2.size; omega
  have hne2 : ¬ w2.heap.size = R := by have := hk2.size; omega
  clear ht hrA
  have h1 : tk = 1 := by
    by_cases h1 : tk = 1
    · exact h1
    · rw [decide_eq_false h1] at hw; cases hw
  have h2 : ts.toList = [110, 111, 116] := by
    by_cases h2 : ts.toList = [110, 111, 116]
    · exact h2
    · rw [decide_eq_false h2, Bool.and_false] at hw; cases hw
  clear hw hs
  have h3 : ts = ⟨#[110, 111, 116]⟩ := ba_eq (by rw [← ByteArray.toList_eq]; exact h2)
  clear h2
  subst h1 h3
  go_wp2_with fail
  have hkb : Keeps [R] w ((w2.alloc (.cells #[.int .i64 1, .string ⟨#[110, 111, 116]⟩, .int .i64 tn, .int .i64 ta] 91 (0, 0))).setCell ⟨R, 1, none⟩ (.int .i64 ((k : Int) + 1))) := (hka.mono (by simp)).setCell (.inl (by simp)) _
  have hr3 := HRA.out.at_
  refine (HFit _ (k + 1) hr3 HD.out).out.mono ?_
  rintro e w4 ⟨rfl, hr4, hk4⟩
  have hkc := hkb.trans hk4 (fun x hx _ => hx)
  have HR4 := Lib.hid hr4
  clear hr4 hr3
  go_wp2_with fail
  refine (HIH.out 2 (k + 1) (deep + 1) _ (by omega) HL1.out (by have := HFU.out; have := HL1.out; omega) HD.out (HC.out.keep HK.out hkc) HR4.out).mono ?_
  rintro e w5 ⟨hl, hk5⟩
  have hkd := hkc.trans hk5 (fun x hx _ => hx)
  rw [HX.out] at hl
  obtain ⟨ao, q, cp, rfl, hq, hown, hr5⟩ := hl.ok_form
  obtain ⟨y2, zz2⟩ := rd_deep hr5
  have hrE := hr5.less
  have HRE := Lib.hid hrE
  have HQ5 := Lib.hid hq
  have hq4 : q ≤ 4097 := by rw [← hq]; exact hxl
  have hkE := hkd.setCell (p := ⟨R, 2, none⟩) (.inl (by simp)) (.int .i64 (deep : Int))
  have hownE := own_set_other hown (a := ⟨R, 2, none⟩) (.int .i64 (deep : Int)) (fun hb => by have h1 : w4.heap.size ≤ R := own_ge hown hb; have := hkc.size; omega)
  have hkF := hkE.alloc (.cells #[.int .i64 13, .int .i64 0, .string ⟨#[]⟩, .string ⟨#[]⟩, .int .i64 0] 58 (0, 0))
  have hownF := own_kept hownE ((Keeps.refl [] _).alloc (.cells #[.int .i64 13, .int .i64 0, .string ⟨#[]⟩, .string ⟨#[]⟩, .int .i64 0] 58 (0, 0))) (by simp)
  have hrF := HRE.out.keep ((Keeps.refl [] _).alloc (.cells #[.int .i64 13, .int .i64 0, .string ⟨#[]⟩, .string ⟨#[]⟩, .int .i64 0] 58 (0, 0)))
  have hw5 : w.heap.size ≤ w5.heap.size := hkd.size
  have hsz : (w5.setCell ⟨R, 2, none⟩ (.int .i64 (deep : Int))).heap.size = w5.heap.size := by simp
  have hon : ((w5.setCell ⟨R, 2, none⟩ (.int .i64 (deep : Int))).alloc (.cells #[.int .i64 13, .int .i64 0, .string ⟨#[]⟩, .string ⟨#[]⟩, .int .i64 0] 58 (0, 0))).ownsRow w.heap.size 58 5 (.slice (some ⟨w5.heap.size, 0, none⟩) 1 1) 1 [.int .i64 13, .int .i64 0, .string ⟨#[]⟩, .string ⟨#[]⟩, .int .i64 0] := by
    rw [← hsz]
    exact own_mono (own_new _ #[.int .i64 13, .int .i64 0, .string ⟨#[]⟩, .string ⟨#[]⟩, .int .i64 0] 58 5 1 rfl (by decide)) (by rw [hsz]; exact hw5)
  have HOF := Lib.hid hownF
  have HON := Lib.hid hon
  have HRF := Lib.hid hrF
  have hkFs := hkF.size
  clear hl hown hr5 hrE hq hownE hownF hon hrF
  go_wp2_with (at_builtin; refine list_append_any rtPart (by rfl) _ _ (by rfl) w.heap.size (.slice (some ⟨w5.heap.size, 0, none⟩) 1 1) 1 [.int .i64 13, .int .i64 0, .string ⟨#[]⟩, .string ⟨#[]⟩, .int .i64 0] (by rfl) HON.out _ q (partsRow x) (by rfl) (SlC.of_own HOF.out) (partsRow_cell x) (by omega) (by unfold maxLen; omega) hkFs ?_; intro ao1 cp1 w6 hown1 hgrow _ _; have hk6 := hkF.grown hgrow (fun b hb => .inr (own_ge HON.out hb)); have hr6 : RdAt w6 R bk o n cap O k' deep := (hgrow.block R (by have := heap_lt HRF.out; exact this) (fun hb => by have := own_ge HON.out hb.symm; omega)).trans HRF.out; have HO6 := Lib.hid hown1; have HR6 := Lib.hid hr6; have HK6 := Lib.hid hk6; clear hown1 hgrow hr6 hk6)
  go_returns
  refine ⟨?_, HK6.out⟩
  rw [HM.out]
  exact ⟨ao1, 1 + q, cp1, rfl, by simp [HQ5.out]; omega, HO6.out, HR6.out⟩

end Go.Proofs.YtefcmijobbgpbaaGreatDoor
