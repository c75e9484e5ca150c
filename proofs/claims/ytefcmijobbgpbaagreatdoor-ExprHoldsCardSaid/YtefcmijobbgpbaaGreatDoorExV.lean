/- The reader: a leaf, or an expression in brackets. Conditions: those of each theorem. -/
import Derived.Test.YtefcmijobbgpbaaGreatDoorExU
namespace Go.Proofs.YtefcmijobbgpbaaGreatDoor
open Go.RowKit

/-- What the recursion is told: every level, with this fuel. -/
def LevIH (W : World) (R bk o n cap O : Nat) (l : List TokR) (f : Nat) : Prop := ∀ (nn k deep : Nat) (w : World), nn ≤ 6 → k < n → 8 * (n - 1 - k) + 7 - nn ≤ f → deep ≤ 200 → Keeps [] W w → RdAt w R bk o n cap O k deep →
  Calls Tryz.prog 86 #[.pointer (some ⟨R, 0, none⟩), .int .i64 nn] w fun e w' => LevOut R bk o n cap O deep w.heap.size (runM l f none nn k deep) e w' ∧ Keeps [R] w w'

theorem runM_num {l : List TokR} {f k deep : Nat} (h : (tokAt l k).kind = 2) : runM l (f + 1) none 6 k deep = .ok [numP (tokAt l k).n] (k + 1) := by rw [runM, if_pos rfl, if_pos h]
theorem runM_text {l : List TokR} {f k deep : Nat} (h : (tokAt l k).kind = 3) : runM l (f + 1) none 6 k deep = .ok [textP (tokAt l k).s] (k + 1) := by rw [runM, if_pos rfl, if_neg (by omega), if_pos h]
theorem runM_word {l : List TokR} {f k deep : Nat} (h : (tokAt l k).kind = 1) : runM l (f + 1) none 6 k deep = wordR l k := by rw [runM, if_pos rfl, if_neg (by omega), if_neg (by omega), if_pos h]
theorem runM_other {l : List TokR} {f k deep : Nat} (h1 : ¬ (tokAt l k).kind = 1) (h2 : ¬ (tokAt l k).kind = 2) (h3 : ¬ (tokAt l k).kind = 3) (h : isSignT (tokAt l k) bOpen = false) : runM l (f + 1) none 6 k deep = .stuck (tokAt l k).at_ := by rw [runM, if_pos rfl, if_neg h2, if_neg h3, if_neg h1, if_pos h]
theorem sign_kinds {t : TokR} {s : ByteArray} (h : isSignT t s = true) : t.kind = 4 := by
  unfold isSignT at h
  simp only [Bool.and_eq_true, decide_eq_true_eq] at h
  exact h.1
theorem runM_over {l : List TokR} {f k deep : Nat} (h : isSignT (tokAt l k) bOpen = true) (hd : 200 < deep + 1) : runM l (f + 1) none 6 k deep = .stuck (tokAt l (k + 1)).at_ := by
  have := sign_kinds h
  rw [runM, if_pos rfl, if_neg (by omega), if_neg (by omega), if_neg (by omega), if_neg (by rw [h]; simp), if_pos hd]
theorem runM_in_stuck {l : List TokR} {f k deep : Nat} {a : Int} (h : isSignT (tokAt l k) bOpen = true) (hd : ¬ 200 < deep + 1) (hx : runM l f none 0 (k + 1) (deep + 1) = .stuck a) : runM l (f + 1) none 6 k deep = .stuck a := by
  have := sign_kinds h
  rw [runM, if_pos rfl, if_neg (by omega), if_neg (by omega), if_neg (by omega), if_neg (by rw [h]; simp), if_neg hd, hx]
theorem runM_in_open {l : List TokR} {f k k' deep : Nat} {x : List PartR} (h : isSignT (tokAt l k) bOpen = true) (hd : ¬ 200 < deep + 1) (hx : runM l f none 0 (k + 1) (deep + 1) = .ok x k') (hs : isSignT (tokAt l k') bShut = false) : runM l (f + 1) none 6 k deep = .stuck (tokAt l k').at_ := by
  have := sign_kinds h
  rw [runM, if_pos rfl, if_neg (by omega), if_neg (by omega), if_neg (by omega), if_neg (by rw [h]; simp), if_neg hd, hx]
  simp only
  rw [if_pos hs]
theorem runM_in_shut {l : List TokR} {f k k' deep : Nat} {x : List PartR} (h : isSignT (tokAt l k) bOpen = true) (hd : ¬ 200 < deep + 1) (hx : runM l f none 0 (k + 1) (deep + 1) = .ok x k') (hs : isSignT (tokAt l k') bShut = true) : runM l (f + 1) none 6 k deep = .ok x (k' + 1) := by
  have := sign_kinds h
  rw [runM, if_pos rfl, if_neg (by omega), if_neg (by omega), if_neg (by omega), if_neg (by rw [h]; simp), if_neg hd, hx]
  simp only
  rw [if_neg (by rw [hs]; simp)]

theorem RdCtx.ends {W : World} {R bk o n cap O : Nat} {l : List TokR} (c : RdCtx W R bk o n cap O l) : ∀ k, n - 1 ≤ k → (tokAt l k).kind = 0 := fun k hk => by
  by_cases h : k = n - 1
  · rw [h]; exact c.last
  · have := c.len
    unfold tokAt
    rw [List.getD_eq_getElem?_getD, List.getElem?_eq_none (by omega)]
    rfl

theorem RdAt.less {w : World} {R bk o n cap O k deep : Nat} (h : RdAt w R bk o n cap O k (deep + 1)) : RdAt (w.setCell ⟨R, 2, none⟩ (.int .i64 (deep : Int))) R bk o n cap O k deep := heap_set_self (o := 2) h

theorem rd_deep {w : World} {R bk o n cap O k deep : Nat} (h : RdAt w R bk o n cap O k (deep + 1)) : w.cell? ⟨R, 2, none⟩ = some (.int .i64 ((deep : Int) + 1)) ∧ w.frozen? ⟨R, 2, none⟩ = false := by
  obtain ⟨_, _, h2, _, _, z⟩ := rd_cells h
  exact ⟨h2, z⟩

theorem LevOut.carry {R bk o n cap O deep B k' : Nat} {ao : Option Addr} {q cp : Nat} {x : List PartR} {w w' : World} (hq : x.length = q) (hown : w.ownsRow B 58 5 (.slice ao q cp) q (partsRow x)) (hk : Keeps [R] w w') (hR : R < B) (hr : RdAt w' R bk o n cap O k' deep) : LevOut R bk o n cap O deep B (.ok x k') (.returned (.slice ao q cp)) w' :=
  ⟨ao, q, cp, rfl, hq, own_kept hown hk (fun b hb => by have := own_ge hown hb; simp; omega), hr⟩

set_option maxHeartbeats 4000000 in
set_option maxRecDepth 100000 in
theorem leaf_num {W w : World} {R bk o n cap O k deep f : Nat} {l : List TokR} (c : RdCtx W R bk o n cap O l) (hk : Keeps [] W w) (hr : RdAt w R bk o n cap O k deep) (h : k < n) (hdp : deep ≤ 200) (hfu : 8 * (n - 1 - k) ≤ f) (IH : LevIH W R bk o n cap O l f) (h1 : (tokAt l k).kind = 2) :
    Calls Tryz.prog 106 #[.pointer (some ⟨R, 0, none⟩)] w fun e w' => LevOut R bk o n cap O deep w.heap.size (runM l (f + 1) none 6 k deep) e w' ∧ Keeps [R] w w' := by
  have HNow := fun w k hk hr h => Lib.hid (now_any (W := W) (w := w) (k := k) (deep := deep) c hk hr h)
  have HStop := fun w k deep hk hr h => Lib.hid (stop_any (W := W) (w := w) (k := k) (deep := deep) c hk hr h)
  have HYes := fun s w k deep hk hr h hs => Lib.hid (sign_yes (W := W) (w := w) (k := k) (deep := deep) s c hk hr h hs)
  have HNo := fun s w k deep hk hr h hs => Lib.hid (sign_no (W := W) (w := w) (k := k) (deep := deep) s c hk hr h hs)
  have HWord := fun w hk hr h h1 => Lib.hid (word_any (W := W) (w := w) (k := k) (deep := deep) c hk hr h h1)
  have HFit := fun w k hr hd => Lib.hid (down_fit (W := W) (w := w) (k := k) (deep := deep) c hr hd)
  have HOver := fun w k hk hr h hd hd2 => Lib.hid (down_over (W := W) (w := w) (k := k) (deep := deep) c hk hr h hd hd2)
  simp only [stuckAt] at HStop HOver
  simp only [tokAgg_eq] at HNow
  have HC := Lib.hid c
  have HK := Lib.hid hk
  have HR := Lib.hid hr
  have HL := Lib.hid h
  have HIH := Lib.hid IH
  have HFU := Lib.hid hfu
  have HDP := Lib.hid hdp
  have h63 : k ≤ 4097 := by have := c.few; omega
  have hRw : R < w.heap.size := heap_lt hr
  have HM := Lib.hid (runM_num (f := f) (deep := deep) h1)
  clear c hk hr h IH hfu 
  go_enter Tryz.func106, Tryz.ntmps106
  go_wp2_with fail
  refine (HNow w k HK.out HR.out HL.out).out.mono ?_
  rintro e w2 ⟨rfl, hk2⟩
  obtain ⟨tk, ts, tn, ta, ht⟩ : ∃ tk ts tn ta, tokAt l k = ⟨tk, ts, tn, ta⟩ := ⟨_, _, _, _, rfl⟩
  rw [ht]
  have HT := Lib.hid ht
  simp only [ht] at h1
  have hka := hk2.alloc (.cells #[.int .i64 tk, .string ts, .int .i64 tn, .int .i64 ta] 91 (0, 0))
  have hrA := HR.out.keep hka
  obtain ⟨_, q1, _, _, zz1, _⟩ := rd_cells hrA
  have HRA := Lib.hid hrA
  have hne : ¬ R = w2.heap.size := by have := hk2.size; omega
  have hne2 : ¬ w2.heap.size = R := by have := hk2.size; omega
  clear ht hrA
  subst h1
  go_wp2_with fail
  go_returns
  have h9 := one_out (numP tn) ((hka.mono (by simp) : Keeps [R] w _).setCell (.inl (by simp)) (.int .i64 ((k : Int) + 1))) HRA.out.at_ (s := w2.heap.size + 1) (by simp)
  rw [HM.out, HT.out]
  exact h9


set_option maxHeartbeats 4000000 in
set_option maxRecDepth 100000 in
theorem leaf_text {W w : World} {R bk o n cap O k deep f : Nat} {l : List TokR} (c : RdCtx W R bk o n cap O l) (hk : Keeps [] W w) (hr : RdAt w R bk o n cap O k deep) (h : k < n) (hdp : deep ≤ 200) (hfu : 8 * (n - 1 - k) ≤ f) (IH : LevIH W R bk o n cap O l f) (h1 : (tokAt l k).kind = 3) :
    Calls Tryz.prog 106 #[.pointer (some ⟨R, 0, none⟩)] w fun e w' => LevOut R bk o n cap O deep w.heap.size (runM l (f + 1) none 6 k deep) e w' ∧ Keeps [R] w w' := by
  have HNow := fun w k hk hr h => Lib.hid (now_any (W := W) (w := w) (k := k) (deep := deep) c hk hr h)
  have HStop := fun w k deep hk hr h => Lib.hid (stop_any (W := W) (w := w) (k := k) (deep := deep) c hk hr h)
  have HYes := fun s w k deep hk hr h hs => Lib.hid (sign_yes (W := W) (w := w) (k := k) (deep := deep) s c hk hr h hs)
  have HNo := fun s w k deep hk hr h hs => Lib.hid (sign_no (W := W) (w := w) (k := k) (deep := deep) s c hk hr h hs)
  have HWord := fun w hk hr h h1 => Lib.hid (word_any (W := W) (w := w) (k := k) (deep := deep) c hk hr h h1)
  have HFit := fun w k hr hd => Lib.hid (down_fit (W := W) (w := w) (k := k) (deep := deep) c hr hd)
  have HOver := fun w k hk hr h hd hd2 => Lib.hid (down_over (W := W) (w := w) (k := k) (deep := deep) c hk hr h hd hd2)
  simp only [stuckAt] at HStop HOver
  simp only [tokAgg_eq] at HNow
  have HC := Lib.hid c
  have HK := Lib.hid hk
  have HR := Lib.hid hr
  have HL := Lib.hid h
  have HIH := Lib.hid IH
  have HFU := Lib.hid hfu
  have HDP := Lib.hid hdp
  have h63 : k ≤ 4097 := by have := c.few; omega
  have hRw : R < w.heap.size := heap_lt hr
  have HM := Lib.hid (runM_text (f := f) (deep := deep) h1)
  clear c hk hr h IH hfu 
  go_enter Tryz.func106, Tryz.ntmps106
  go_wp2_with fail
  refine (HNow w k HK.out HR.out HL.out).out.mono ?_
  rintro e w2 ⟨rfl, hk2⟩
  obtain ⟨tk, ts, tn, ta, ht⟩ : ∃ tk ts tn ta, tokAt l k = ⟨tk, ts, tn, ta⟩ := ⟨_, _, _, _, rfl⟩
  rw [ht]
  have HT := Lib.hid ht
  simp only [ht] at h1
  have hka := hk2.alloc (.cells #[.int .i64 tk, .string ts, .int .i64 tn, .int .i64 ta] 91 (0, 0))
  have hrA := HR.out.keep hka
  obtain ⟨_, q1, _, _, zz1, _⟩ := rd_cells hrA
  have HRA := Lib.hid hrA
  have hne : ¬ R = w2.heap.size := by have := hk2.size; omega
  have hne2 : ¬ w2.heap.size = R := by have := hk2.size; omega
  clear ht hrA
  subst h1
  go_wp2_with fail
  go_returns
  have h9 := one_out (textP ts) ((hka.mono (by simp) : Keeps [R] w _).setCell (.inl (by simp)) (.int .i64 ((k : Int) + 1))) HRA.out.at_ (s := w2.heap.size + 1) (by simp)
  rw [HM.out, HT.out]
  exact h9


set_option maxHeartbeats 4000000 in
set_option maxRecDepth 100000 in
theorem leaf_word {W w : World} {R bk o n cap O k deep f : Nat} {l : List TokR} (c : RdCtx W R bk o n cap O l) (hk : Keeps [] W w) (hr : RdAt w R bk o n cap O k deep) (h : k < n) (hdp : deep ≤ 200) (hfu : 8 * (n - 1 - k) ≤ f) (IH : LevIH W R bk o n cap O l f) (h1 : (tokAt l k).kind = 1) :
    Calls Tryz.prog 106 #[.pointer (some ⟨R, 0, none⟩)] w fun e w' => LevOut R bk o n cap O deep w.heap.size (runM l (f + 1) none 6 k deep) e w' ∧ Keeps [R] w w' := by
  have HNow := fun w k hk hr h => Lib.hid (now_any (W := W) (w := w) (k := k) (deep := deep) c hk hr h)
  have HStop := fun w k deep hk hr h => Lib.hid (stop_any (W := W) (w := w) (k := k) (deep := deep) c hk hr h)
  have HYes := fun s w k deep hk hr h hs => Lib.hid (sign_yes (W := W) (w := w) (k := k) (deep := deep) s c hk hr h hs)
  have HNo := fun s w k deep hk hr h hs => Lib.hid (sign_no (W := W) (w := w) (k := k) (deep := deep) s c hk hr h hs)
  have HWord := fun w hk hr h h1 => Lib.hid (word_any (W := W) (w := w) (k := k) (deep := deep) c hk hr h h1)
  have HFit := fun w k hr hd => Lib.hid (down_fit (W := W) (w := w) (k := k) (deep := deep) c hr hd)
  have HOver := fun w k hk hr h hd hd2 => Lib.hid (down_over (W := W) (w := w) (k := k) (deep := deep) c hk hr h hd hd2)
  simp only [stuckAt] at HStop HOver
  simp only [tokAgg_eq] at HNow
  have HC := Lib.hid c
  have HK := Lib.hid hk
  have HR := Lib.hid hr
  have HL := Lib.hid h
  have HIH := Lib.hid IH
  have HFU := Lib.hid hfu
  have HDP := Lib.hid hdp
  have h63 : k ≤ 4097 := by have := c.few; omega
  have hRw : R < w.heap.size := heap_lt hr
  have HM := Lib.hid (runM_word (f := f) (deep := deep) h1)
  have HK1 := Lib.hid h1
  clear c hk hr h IH hfu 
  go_enter Tryz.func106, Tryz.ntmps106
  go_wp2_with fail
  refine (HNow w k HK.out HR.out HL.out).out.mono ?_
  rintro e w2 ⟨rfl, hk2⟩
  obtain ⟨tk, ts, tn, ta, ht⟩ : ∃ tk ts tn ta, tokAt l k = ⟨tk, ts, tn, ta⟩ := ⟨_, _, _, _, rfl⟩
  rw [ht]
  have HT := Lib.hid ht
  simp only [ht] at h1
  have hka := hk2.alloc (.cells #[.int .i64 tk, .string ts, .int .i64 tn, .int .i64 ta] 91 (0, 0))
  have hrA := HR.out.keep hka
  obtain ⟨_, q1, _, _, zz1, _⟩ := rd_cells hrA
  have HRA := Lib.hid hrA
  have hne : ¬ R = w2.heap.size := by have := hk2.size; omega
  have hne2 : ¬ w2.heap.size = R := by have := hk2.size; omega
  clear ht hrA
  subst h1
  go_wp2_with fail
  refine (HWord _ (HK.out.then hka) HRA.out HL.out HK1.out).out.mono ?_
  rintro e w3 ⟨hl, hk3⟩
  rw [← HM.out] at hl
  cases hx : runM l (f + 1) none 6 k deep with
  | ok x k' =>
    rw [hx] at hl
    obtain ⟨ao, q, cp, rfl, hq, hown, hr3⟩ := hl.ok_form
    have HX := Lib.hid hx
    have HOW := Lib.hid hown
    have HR3 := Lib.hid hr3
    clear hl hx hown hr3
    go_wp2_with fail
    go_returns
    refine ⟨?_, (hka.mono (by simp)).trans hk3 (fun x hx _ => hx)⟩
    rw [HX.out]
    exact ⟨ao, q, cp, rfl, hq, own_mono HOW.out hka.size, HR3.out⟩
  | stuck a =>
    rw [hx] at hl
    have hl := hl.stuck_form
    subst hl
    refine ⟨rfl, ?_, (hka.mono (by simp)).trans hk3 (fun x hx _ => hx)⟩
    rw [hx]
    rfl


set_option maxHeartbeats 4000000 in
set_option maxRecDepth 100000 in
theorem leaf_other {W w : World} {R bk o n cap O k deep f : Nat} {l : List TokR} (c : RdCtx W R bk o n cap O l) (hk : Keeps [] W w) (hr : RdAt w R bk o n cap O k deep) (h : k < n) (hdp : deep ≤ 200) (hfu : 8 * (n - 1 - k) ≤ f) (IH : LevIH W R bk o n cap O l f) (h1 : ¬ (tokAt l k).kind = 1) (h2 : ¬ (tokAt l k).kind = 2) (h3 : ¬ (tokAt l k).kind = 3) (hs : isSignT (tokAt l k) bOpen = false) :
    Calls Tryz.prog 106 #[.pointer (some ⟨R, 0, none⟩)] w fun e w' => LevOut R bk o n cap O deep w.heap.size (runM l (f + 1) none 6 k deep) e w' ∧ Keeps [R] w w' := by
  have HNow := fun w k hk hr h => Lib.hid (now_any (W := W) (w := w) (k := k) (deep := deep) c hk hr h)
  have HStop := fun w k deep hk hr h => Lib.hid (stop_any (W := W) (w := w) (k := k) (deep := deep) c hk hr h)
  have HYes := fun s w k deep hk hr h hs => Lib.hid (sign_yes (W := W) (w := w) (k := k) (deep := deep) s c hk hr h hs)
  have HNo := fun s w k deep hk hr h hs => Lib.hid (sign_no (W := W) (w := w) (k := k) (deep := deep) s c hk hr h hs)
  have HWord := fun w hk hr h h1 => Lib.hid (word_any (W := W) (w := w) (k := k) (deep := deep) c hk hr h h1)
  have HFit := fun w k hr hd => Lib.hid (down_fit (W := W) (w := w) (k := k) (deep := deep) c hr hd)
  have HOver := fun w k hk hr h hd hd2 => Lib.hid (down_over (W := W) (w := w) (k := k) (deep := deep) c hk hr h hd hd2)
  simp only [stuckAt] at HStop HOver
  simp only [tokAgg_eq] at HNow
  have HC := Lib.hid c
  have HK := Lib.hid hk
  have HR := Lib.hid hr
  have HL := Lib.hid h
  have HIH := Lib.hid IH
  have HFU := Lib.hid hfu
  have HDP := Lib.hid hdp
  have h63 : k ≤ 4097 := by have := c.few; omega
  have hRw : R < w.heap.size := heap_lt hr
  have HM := Lib.hid (runM_other (f := f) (deep := deep) h1 h2 h3 hs)
  have HS := Lib.hid hs
  clear c hk hr h IH hfu hs
  go_enter Tryz.func106, Tryz.ntmps106
  go_wp2_with fail
  refine (HNow w k HK.out HR.out HL.out).out.mono ?_
  rintro e w2 ⟨rfl, hk2⟩
  obtain ⟨tk, ts, tn, ta, ht⟩ : ∃ tk ts tn ta, tokAt l k = ⟨tk, ts, tn, ta⟩ := ⟨_, _, _, _, rfl⟩
  rw [ht]
  have HT := Lib.hid ht
  simp only [ht] at h1 h2 h3
  have hka := hk2.alloc (.cells #[.int .i64 tk, .string ts, .int .i64 tn, .int .i64 ta] 91 (0, 0))
  have hrA := HR.out.keep hka
  obtain ⟨_, q1, _, _, zz1, _⟩ := rd_cells hrA
  have HRA := Lib.hid hrA
  have hne : ¬ R = w2.heap.size := by have := hk2.size; omega
  have hne2 : ¬ w2.heap.size = R := by have := hk2.size; omega
  clear ht hrA
  have d1 : (tk == 1) = false := by rw [beq_eq_false_iff_ne]; exact h1
  have d2 : (tk == 2) = false := by rw [beq_eq_false_iff_ne]; exact h2
  have d3 : (tk == 3) = false := by rw [beq_eq_false_iff_ne]; exact h3
  clear h1 h2 h3
  go_wp2_with fail
  refine (HNo bOpen _ k deep (HK.out.then hka) HRA.out HL.out HS.out).out.mono ?_
  rintro e w3 ⟨rfl, hr3, hk3⟩
  have hkb := (hka.mono (by simp) : Keeps [R] w _).trans hk3 (fun x hx _ => hx)
  go_wp2_with fail
  refine (HStop _ k deep (HC.out.keep HK.out hkb) hr3 HL.out).out.mono ?_
  rintro e w4 ⟨rfl, hk4⟩
  refine ⟨rfl, ?_, hkb.trans (hk4.mono (by simp)) (fun x hx _ => hx)⟩
  rw [HM.out]
  rfl


set_option maxHeartbeats 4000000 in
set_option maxRecDepth 100000 in
theorem leaf_over {W w : World} {R bk o n cap O k deep f : Nat} {l : List TokR} (c : RdCtx W R bk o n cap O l) (hk : Keeps [] W w) (hr : RdAt w R bk o n cap O k deep) (h : k < n) (hdp : deep ≤ 200) (hfu : 8 * (n - 1 - k) ≤ f) (IH : LevIH W R bk o n cap O l f) (hs : isSignT (tokAt l k) bOpen = true) (hd : 200 < deep + 1) :
    Calls Tryz.prog 106 #[.pointer (some ⟨R, 0, none⟩)] w fun e w' => LevOut R bk o n cap O deep w.heap.size (runM l (f + 1) none 6 k deep) e w' ∧ Keeps [R] w w' := by
  have HNow := fun w k hk hr h => Lib.hid (now_any (W := W) (w := w) (k := k) (deep := deep) c hk hr h)
  have HStop := fun w k deep hk hr h => Lib.hid (stop_any (W := W) (w := w) (k := k) (deep := deep) c hk hr h)
  have HYes := fun s w k deep hk hr h hs => Lib.hid (sign_yes (W := W) (w := w) (k := k) (deep := deep) s c hk hr h hs)
  have HNo := fun s w k deep hk hr h hs => Lib.hid (sign_no (W := W) (w := w) (k := k) (deep := deep) s c hk hr h hs)
  have HWord := fun w hk hr h h1 => Lib.hid (word_any (W := W) (w := w) (k := k) (deep := deep) c hk hr h h1)
  have HFit := fun w k hr hd => Lib.hid (down_fit (W := W) (w := w) (k := k) (deep := deep) c hr hd)
  have HOver := fun w k hk hr h hd hd2 => Lib.hid (down_over (W := W) (w := w) (k := k) (deep := deep) c hk hr h hd hd2)
  simp only [stuckAt] at HStop HOver
  simp only [tokAgg_eq] at HNow
  have HC := Lib.hid c
  have HK := Lib.hid hk
  have HR := Lib.hid hr
  have HL := Lib.hid h
  have HIH := Lib.hid IH
  have HFU := Lib.hid hfu
  have HDP := Lib.hid hdp
  have h63 : k ≤ 4097 := by have := c.few; omega
  have hRw : R < w.heap.size := heap_lt hr
  have HM := Lib.hid (runM_over (f := f) (deep := deep) hs hd)
  have HD := Lib.hid hd
  have HS := Lib.hid hs
  have hn1 := tok_lt c h (sign_kind (by rw [hs]; simp : ¬ isSignT (tokAt l k) bOpen = false))
  have HL1 := Lib.hid hn1
  have h1 : ¬ (tokAt l k).kind = 1 := by have := sign_kinds hs; omega
  have h2 : ¬ (tokAt l k).kind = 2 := by have := sign_kinds hs; omega
  have h3 : ¬ (tokAt l k).kind = 3 := by have := sign_kinds hs; omega
  clear c hk hr h IH hfu hs hn1 hd
  go_enter Tryz.func106, Tryz.ntmps106
  go_wp2_with fail
  refine (HNow w k HK.out HR.out HL.out).out.mono ?_
  rintro e w2 ⟨rfl, hk2⟩
  obtain ⟨tk, ts, tn, ta, ht⟩ : ∃ tk ts tn ta, tokAt l k = ⟨tk, ts, tn, ta⟩ := ⟨_, _, _, _, rfl⟩
  rw [ht]
  have HT := Lib.hid ht
  simp only [ht] at h1 h2 h3
  have hka := hk2.alloc (.cells #[.int .i64 tk, .string ts, .int .i64 tn, .int .i64 ta] 91 (0, 0))
  have hrA := HR.out.keep hka
  obtain ⟨_, q1, _, _, zz1, _⟩ := rd_cells hrA
  have HRA := Lib.hid hrA
  have hne : ¬ R = w2.heap.size := by have := hk2.size; omega
  have hne2 : ¬ w2.heap.size = R := by have := hk2.size; omega
  clear ht hrA
  have d1 : (tk == 1) = false := by rw [beq_eq_false_iff_ne]; exact h1
  have d2 : (tk == 2) = false := by rw [beq_eq_false_iff_ne]; exact h2
  have d3 : (tk == 3) = false := by rw [beq_eq_false_iff_ne]; exact h3
  clear h1 h2 h3
  go_wp2_with fail
  refine (HYes bOpen _ k deep (HK.out.then hka) HRA.out HL.out HS.out).out.mono ?_
  rintro e w3 ⟨rfl, hr3, hk3⟩
  have hkb := (hka.mono (by simp) : Keeps [R] w _).trans hk3 (fun x hx _ => hx)
  have HR3 := Lib.hid hr3
  clear hr3
  go_wp2_with fail
  refine (HOver _ (k + 1) (HC.out.keep HK.out hkb) HR3.out HL1.out HD.out HDP.out).out.mono ?_
  rintro e w4 ⟨rfl, hk4⟩
  refine ⟨rfl, ?_, hkb.trans hk4 (fun x hx _ => hx)⟩
  rw [HM.out]
  rfl


set_option maxHeartbeats 4000000 in
set_option maxRecDepth 100000 in
theorem leaf_in_stuck {W w : World} {R bk o n cap O k deep f : Nat} {l : List TokR} (c : RdCtx W R bk o n cap O l) (hk : Keeps [] W w) (hr : RdAt w R bk o n cap O k deep) (h : k < n) (hdp : deep ≤ 200) (hfu : 8 * (n - 1 - k) ≤ f) (IH : LevIH W R bk o n cap O l f) (hs : isSignT (tokAt l k) bOpen = true) (hd : deep + 1 ≤ 200) {a : Int} (hx : runM l f none 0 (k + 1) (deep + 1) = .stuck a) :
    Calls Tryz.prog 106 #[.pointer (some ⟨R, 0, none⟩)] w fun e w' => LevOut R bk o n cap O deep w.heap.size (runM l (f + 1) none 6 k deep) e w' ∧ Keeps [R] w w' := by
  have HNow := fun w k hk hr h => Lib.hid (now_any (W := W) (w := w) (k := k) (deep := deep) c hk hr h)
  have HStop := fun w k deep hk hr h => Lib.hid (stop_any (W := W) (w := w) (k := k) (deep := deep) c hk hr h)
  have HYes := fun s w k deep hk hr h hs => Lib.hid (sign_yes (W := W) (w := w) (k := k) (deep := deep) s c hk hr h hs)
  have HNo := fun s w k deep hk hr h hs => Lib.hid (sign_no (W := W) (w := w) (k := k) (deep := deep) s c hk hr h hs)
  have HWord := fun w hk hr h h1 => Lib.hid (word_any (W := W) (w := w) (k := k) (deep := deep) c hk hr h h1)
  have HFit := fun w k hr hd => Lib.hid (down_fit (W := W) (w := w) (k := k) (deep := deep) c hr hd)
  have HOver := fun w k hk hr h hd hd2 => Lib.hid (down_over (W := W) (w := w) (k := k) (deep := deep) c hk hr h hd hd2)
  simp only [stuckAt] at HStop HOver
  simp only [tokAgg_eq] at HNow
  have HC := Lib.hid c
  have HK := Lib.hid hk
  have HR := Lib.hid hr
  have HL := Lib.hid h
  have HIH := Lib.hid IH
  have HFU := Lib.hid hfu
  have HDP := Lib.hid hdp
  have h63 : k ≤ 4097 := by have := c.few; omega
  have hRw : R < w.heap.size := heap_lt hr
  have HM := Lib.hid (runM_in_stuck hs (by omega) hx)
  have HD := Lib.hid hd
  have HX := Lib.hid hx
  have HS := Lib.hid hs
  have hn1 := tok_lt c h (sign_kind (by rw [hs]; simp : ¬ isSignT (tokAt l k) bOpen = false))
  have HL1 := Lib.hid hn1
  have h1 : ¬ (tokAt l k).kind = 1 := by have := sign_kinds hs; omega
  have h2 : ¬ (tokAt l k).kind = 2 := by have := sign_kinds hs; omega
  have h3 : ¬ (tokAt l k).kind = 3 := by have := sign_kinds hs; omega
  clear c hk hr h IH hfu hs hn1 hd hx
  go_enter Tryz.func106, Tryz.ntmps106
  go_wp2_with fail
  refine (HNow w k HK.out HR.out HL.out).out.mono ?_
  rintro e w2 ⟨rfl, hk2⟩
  obtain ⟨tk, ts, tn, ta, ht⟩ : ∃ tk ts tn ta, tokAt l k = ⟨tk, ts, tn, ta⟩ := ⟨_, _, _, _, rfl⟩
  rw [ht]
  have HT := Lib.hid ht
  simp only [ht] at h1 h2 h3
  have hka := hk2.alloc (.cells #[.int .i64 tk, .string ts, .int .i64 tn, .int .i64 ta] 91 (0, 0))
  have hrA := HR.out.keep hka
  obtain ⟨_, q1, _, _, zz1, _⟩ := rd_cells hrA
  have HRA := Lib.hid hrA
  have hne : ¬ R = w2.heap.size := by have := hk2.size; omega
  have hne2 : ¬ w2.heap.size = R := by have := hk2.size; omega
  clear ht hrA
  have d1 : (tk == 1) = false := by rw [beq_eq_false_iff_ne]; exact h1
  have d2 : (tk == 2) = false := by rw [beq_eq_false_iff_ne]; exact h2
  have d3 : (tk == 3) = false := by rw [beq_eq_false_iff_ne]; exact h3
  clear h1 h2 h3
  go_wp2_with fail
  refine (HYes bOpen _ k deep (HK.out.then hka) HRA.out HL.out HS.out).out.mono ?_
  rintro e w3 ⟨rfl, hr3, hk3⟩
  have hkb := (hka.mono (by simp) : Keeps [R] w _).trans hk3 (fun x hx _ => hx)
  have HR3 := Lib.hid hr3
  clear hr3
  go_wp2_with fail
  refine (HFit _ (k + 1) HR3.out HD.out).out.mono ?_
  rintro e w4 ⟨rfl, hr4, hk4⟩
  have hkc := hkb.trans hk4 (fun x hx _ => hx)
  have HR4 := Lib.hid hr4
  clear hr4
  go_wp2_with fail
  refine (HIH.out 0 (k + 1) (deep + 1) _ (by omega) HL1.out (by have := HFU.out; have := HL1.out; omega) HD.out (HC.out.keep HK.out hkc) HR4.out).mono ?_
  rintro e w5 ⟨hl, hk5⟩
  have hkd := hkc.trans hk5 (fun x hx _ => hx)
  rw [HX.out] at hl
  have hl := hl.stuck_form
  subst hl
  refine ⟨rfl, ?_, hkd⟩
  rw [HM.out]
  rfl


set_option maxHeartbeats 4000000 in
set_option maxRecDepth 100000 in
theorem leaf_in_open {W w : World} {R bk o n cap O k deep f : Nat} {l : List TokR} (c : RdCtx W R bk o n cap O l) (hk : Keeps [] W w) (hr : RdAt w R bk o n cap O k deep) (h : k < n) (hdp : deep ≤ 200) (hfu : 8 * (n - 1 - k) ≤ f) (IH : LevIH W R bk o n cap O l f) (hs : isSignT (tokAt l k) bOpen = true) (hd : deep + 1 ≤ 200) {x : List PartR} {k' : Nat} (hx : runM l f none 0 (k + 1) (deep + 1) = .ok x k') (ho : isSignT (tokAt l k') bShut = false) :
    Calls Tryz.prog 106 #[.pointer (some ⟨R, 0, none⟩)] w fun e w' => LevOut R bk o n cap O deep w.heap.size (runM l (f + 1) none 6 k deep) e w' ∧ Keeps [R] w w' := by
  have HNow := fun w k hk hr h => Lib.hid (now_any (W := W) (w := w) (k := k) (deep := deep) c hk hr h)
  have HStop := fun w k deep hk hr h => Lib.hid (stop_any (W := W) (w := w) (k := k) (deep := deep) c hk hr h)
  have HYes := fun s w k deep hk hr h hs => Lib.hid (sign_yes (W := W) (w := w) (k := k) (deep := deep) s c hk hr h hs)
  have HNo := fun s w k deep hk hr h hs => Lib.hid (sign_no (W := W) (w := w) (k := k) (deep := deep) s c hk hr h hs)
  have HWord := fun w hk hr h h1 => Lib.hid (word_any (W := W) (w := w) (k := k) (deep := deep) c hk hr h h1)
  have HFit := fun w k hr hd => Lib.hid (down_fit (W := W) (w := w) (k := k) (deep := deep) c hr hd)
  have HOver := fun w k hk hr h hd hd2 => Lib.hid (down_over (W := W) (w := w) (k := k) (deep := deep) c hk hr h hd hd2)
  simp only [stuckAt] at HStop HOver
  simp only [tokAgg_eq] at HNow
  have HC := Lib.hid c
  have HK := Lib.hid hk
  have HR := Lib.hid hr
  have HL := Lib.hid h
  have HIH := Lib.hid IH
  have HFU := Lib.hid hfu
  have HDP := Lib.hid hdp
  have h63 : k ≤ 4097 := by have := c.few; omega
  have hRw : R < w.heap.size := heap_lt hr
  have HM := Lib.hid (runM_in_open hs (by omega) hx ho)
  have HD := Lib.hid hd
  have HX := Lib.hid hx
  have HO := Lib.hid ho
  have HS := Lib.hid hs
  have hn1 := tok_lt c h (sign_kind (by rw [hs]; simp : ¬ isSignT (tokAt l k) bOpen = false))
  have HL1 := Lib.hid hn1
  have h1 : ¬ (tokAt l k).kind = 1 := by have := sign_kinds hs; omega
  have h2 : ¬ (tokAt l k).kind = 2 := by have := sign_kinds hs; omega
  have h3 : ¬ (tokAt l k).kind = 3 := by have := sign_kinds hs; omega
  have hmv := runM_moves c.ends f none 0 (k + 1) (deep + 1) hx (by omega)
  have hk1n : k' < n := by have := c.pos; omega
  have HL2 := Lib.hid hk1n
  clear c hk hr h IH hfu hs hn1 hd hx ho hmv hk1n
  go_enter Tryz.func106, Tryz.ntmps106
  go_wp2_with fail
  refine (HNow w k HK.out HR.out HL.out).out.mono ?_
  rintro e w2 ⟨rfl, hk2⟩
  obtain ⟨tk, ts, tn, ta, ht⟩ : ∃ tk ts tn ta, tokAt l k = ⟨tk, ts, tn, ta⟩ := ⟨_, _, _, _, rfl⟩
  rw [ht]
  have HT := Lib.hid ht
  simp only [ht] at h1 h2 h3
  have hka := hk2.alloc (.cells #[.int .i64 tk, .string ts, .int .i64 tn, .int .i64 ta] 91 (0, 0))
  have hrA := HR.out.keep hka
  obtain ⟨_, q1, _, _, zz1, _⟩ := rd_cells hrA
  have HRA := Lib.hid hrA
  have hne : ¬ R = w2.heap.size := by have := hk2.size; omega
  have hne2 : ¬ w2.heap.size = R := by have := hk2.size; omega
  clear ht hrA
  have d1 : (tk == 1) = false := by rw [beq_eq_false_iff_ne]; exact h1
  have d2 : (tk == 2) = false := by rw [beq_eq_false_iff_ne]; exact h2
  have d3 : (tk == 3) = false := by rw [beq_eq_false_iff_ne]; exact h3
  clear h1 h2 h3
  go_wp2_with fail
  refine (HYes bOpen _ k deep (HK.out.then hka) HRA.out HL.out HS.out).out.mono ?_
  rintro e w3 ⟨rfl, hr3, hk3⟩
  have hkb := (hka.mono (by simp) : Keeps [R] w _).trans hk3 (fun x hx _ => hx)
  have HR3 := Lib.hid hr3
  clear hr3
  go_wp2_with fail
  refine (HFit _ (k + 1) HR3.out HD.out).out.mono ?_
  rintro e w4 ⟨rfl, hr4, hk4⟩
  have hkc := hkb.trans hk4 (fun x hx _ => hx)
  have HR4 := Lib.hid hr4
  clear hr4
  go_wp2_with fail
  refine (HIH.out 0 (k + 1) (deep + 1) _ (by omega) HL1.out (by have := HFU.out; have := HL1.out; omega) HD.out (HC.out.keep HK.out hkc) HR4.out).mono ?_
  rintro e w5 ⟨hl, hk5⟩
  have hkd := hkc.trans hk5 (fun x hx _ => hx)
  rw [HX.out] at hl
  obtain ⟨ao, q, cp, rfl, hq, hown, hr5⟩ := hl.ok_form
  obtain ⟨y2, zz2⟩ := rd_deep hr5
  have HOW := Lib.hid hown
  have HQ5 := Lib.hid hq
  have HR5 := Lib.hid hr5
  have hrE := hr5.less
  have HRE := Lib.hid hrE
  clear hl hown hr5 hrE hq
  go_wp2_with fail
  have hke := hkd.setCell (p := ⟨R, 2, none⟩) (.inl (by simp)) (.int .i64 (deep : Int))
  have hks := (Keeps.refl [R] w5).setCell (p := ⟨R, 2, none⟩) (.inl (by simp)) (.int .i64 (deep : Int))
  refine (HNo bShut _ k' deep (HC.out.keep HK.out hke) HRE.out HL2.out HO.out).out.mono ?_
  rintro e w6 ⟨rfl, hr6, hk6⟩
  have hkf := hke.trans hk6 (fun x hx _ => hx)
  go_wp2_with fail
  refine (HStop _ k' deep (HC.out.keep HK.out hkf) hr6 HL2.out).out.mono ?_
  rintro e w7 ⟨rfl, hk7⟩
  refine ⟨rfl, ?_, hkf.trans (hk7.mono (by simp)) (fun x hx _ => hx)⟩
  rw [HM.out]
  rfl


set_option maxHeartbeats 4000000 in
set_option maxRecDepth 100000 in
theorem leaf_in_shut {W w : World} {R bk o n cap O k deep f : Nat} {l : List TokR} (c : RdCtx W R bk o n cap O l) (hk : Keeps [] W w) (hr : RdAt w R bk o n cap O k deep) (h : k < n) (hdp : deep ≤ 200) (hfu : 8 * (n - 1 - k) ≤ f) (IH : LevIH W R bk o n cap O l f) (hs : isSignT (tokAt l k) bOpen = true) (hd : deep + 1 ≤ 200) {x : List PartR} {k' : Nat} (hx : runM l f none 0 (k + 1) (deep + 1) = .ok x k') (ho : isSignT (tokAt l k') bShut = true) :
    Calls Tryz.prog 106 #[.pointer (some ⟨R, 0, none⟩)] w fun e w' => LevOut R bk o n cap O deep w.heap.size (runM l (f + 1) none 6 k deep) e w' ∧ Keeps [R] w w' := by
  have HNow := fun w k hk hr h => Lib.hid (now_any (W := W) (w := w) (k := k) (deep := deep) c hk hr h)
  have HStop := fun w k deep hk hr h => Lib.hid (stop_any (W := W) (w := w) (k := k) (deep := deep) c hk hr h)
  have HYes := fun s w k deep hk hr h hs => Lib.hid (sign_yes (W := W) (w := w) (k := k) (deep := deep) s c hk hr h hs)
  have HNo := fun s w k deep hk hr h hs => Lib.hid (sign_no (W := W) (w := w) (k := k) (deep := deep) s c hk hr h hs)
  have HWord := fun w hk hr h h1 => Lib.hid (word_any (W := W) (w := w) (k := k) (deep := deep) c hk hr h h1)
  have HFit := fun w k hr hd => Lib.hid (down_fit (W := W) (w := w) (k := k) (deep := deep) c hr hd)
  have HOver := fun w k hk hr h hd hd2 => Lib.hid (down_over (W := W) (w := w) (k := k) (deep := deep) c hk hr h hd hd2)
  simp only [stuckAt] at HStop HOver
  simp only [tokAgg_eq] at HNow
  have HC := Lib.hid c
  have HK := Lib.hid hk
  have HR := Lib.hid hr
  have HL := Lib.hid h
  have HIH := Lib.hid IH
  have HFU := Lib.hid hfu
  have HDP := Lib.hid hdp
  have h63 : k ≤ 4097 := by have := c.few; omega
  have hRw : R < w.heap.size := heap_lt hr
  have HM := Lib.hid (runM_in_shut hs (by omega) hx ho)
  have HD := Lib.hid hd
  have HX := Lib.hid hx
  have HO := Lib.hid ho
  have HS := Lib.hid hs
  have hn1 := tok_lt c h (sign_kind (by rw [hs]; simp : ¬ isSignT (tokAt l k) bOpen = false))
  have HL1 := Lib.hid hn1
  have h1 : ¬ (tokAt l k).kind = 1 := by have := sign_kinds hs; omega
  have h2 : ¬ (tokAt l k).kind = 2 := by have := sign_kinds hs; omega
  have h3 : ¬ (tokAt l k).kind = 3 := by have := sign_kinds hs; omega
  have hmv := runM_moves c.ends f none 0 (k + 1) (deep + 1) hx (by omega)
  have hk1n : k' < n := by have := c.pos; omega
  have HL2 := Lib.hid hk1n
  clear c hk hr h IH hfu hs hn1 hd hx ho hmv hk1n
  go_enter Tryz.func106, Tryz.ntmps106
  go_wp2_with fail
  refine (HNow w k HK.out HR.out HL.out).out.mono ?_
  rintro e w2 ⟨rfl, hk2⟩
  obtain ⟨tk, ts, tn, ta, ht⟩ : ∃ tk ts tn ta, tokAt l k = ⟨tk, ts, tn, ta⟩ := ⟨_, _, _, _, rfl⟩
  rw [ht]
  have HT := Lib.hid ht
  simp only [ht] at h1 h2 h3
  have hka := hk2.alloc (.cells #[.int .i64 tk, .string ts, .int .i64 tn, .int .i64 ta] 91 (0, 0))
  have hrA := HR.out.keep hka
  obtain ⟨_, q1, _, _, zz1, _⟩ := rd_cells hrA
  have HRA := Lib.hid hrA
  have hne : ¬ R = w2.heap.size := by have := hk2.size; omega
  have hne2 : ¬ w2.heap.size = R := by have := hk2.size; omega
  clear ht hrA
  have d1 : (tk == 1) = false := by rw [beq_eq_false_iff_ne]; exact h1
  have d2 : (tk == 2) = false := by rw [beq_eq_false_iff_ne]; exact h2
  have d3 : (tk == 3) = false := by rw [beq_eq_false_iff_ne]; exact h3
  clear h1 h2 h3
  go_wp2_with fail
  refine (HYes bOpen _ k deep (HK.out.then hka) HRA.out HL.out HS.out).out.mono ?_
  rintro e w3 ⟨rfl, hr3, hk3⟩
  have hkb := (hka.mono (by simp) : Keeps [R] w _).trans hk3 (fun x hx _ => hx)
  have HR3 := Lib.hid hr3
  clear hr3
  go_wp2_with fail
  refine (HFit _ (k + 1) HR3.out HD.out).out.mono ?_
  rintro e w4 ⟨rfl, hr4, hk4⟩
  have hkc := hkb.trans hk4 (fun x hx _ => hx)
  have HR4 := Lib.hid hr4
  clear hr4
  go_wp2_with fail
  refine (HIH.out 0 (k + 1) (deep + 1) _ (by omega) HL1.out (by have := HFU.out; have := HL1.out; omega) HD.out (HC.out.keep HK.out hkc) HR4.out).mono ?_
  rintro e w5 ⟨hl, hk5⟩
  have hkd := hkc.trans hk5 (fun x hx _ => hx)
  rw [HX.out] at hl
  obtain ⟨ao, q, cp, rfl, hq, hown, hr5⟩ := hl.ok_form
  obtain ⟨y2, zz2⟩ := rd_deep hr5
  have HOW := Lib.hid hown
  have HQ5 := Lib.hid hq
  have HR5 := Lib.hid hr5
  have hrE := hr5.less
  have HRE := Lib.hid hrE
  clear hl hown hr5 hrE hq
  go_wp2_with fail
  have hke := hkd.setCell (p := ⟨R, 2, none⟩) (.inl (by simp)) (.int .i64 (deep : Int))
  have hks := (Keeps.refl [R] w5).setCell (p := ⟨R, 2, none⟩) (.inl (by simp)) (.int .i64 (deep : Int))
  refine (HYes bShut _ k' deep (HC.out.keep HK.out hke) HRE.out HL2.out HO.out).out.mono ?_
  rintro e w6 ⟨rfl, hr6, hk6⟩
  have hkf := hke.trans hk6 (fun x hx _ => hx)
  have HR6 := Lib.hid hr6
  clear hr6
  go_wp2_with fail
  go_returns
  refine ⟨?_, hkf⟩
  rw [HM.out]
  exact LevOut.carry HQ5.out (own_mono HOW.out hkc.size) (hks.trans hk6 (fun x hx _ => hx)) hRw HR6.out


/-- A leaf, any. -/
theorem leaf_any {W w : World} {R bk o n cap O k deep f : Nat} {l : List TokR} (c : RdCtx W R bk o n cap O l) (hk : Keeps [] W w) (hr : RdAt w R bk o n cap O k deep) (h : k < n) (hdp : deep ≤ 200) (hfu : 8 * (n - 1 - k) ≤ f) (IH : LevIH W R bk o n cap O l f) :
    Calls Tryz.prog 106 #[.pointer (some ⟨R, 0, none⟩)] w fun e w' => LevOut R bk o n cap O deep w.heap.size (runM l (f + 1) none 6 k deep) e w' ∧ Keeps [R] w w' := by
  by_cases h1 : (tokAt l k).kind = 1
  · exact leaf_word c hk hr h hdp hfu IH h1
  · by_cases h2 : (tokAt l k).kind = 2
    · exact leaf_num c hk hr h hdp hfu IH h2
    · by_cases h3 : (tokAt l k).kind = 3
      · exact leaf_text c hk hr h hdp hfu IH h3
      · cases hs : isSignT (tokAt l k) bOpen with
        | false => exact leaf_other c hk hr h hdp hfu IH h1 h2 h3 hs
        | true =>
          by_cases hd : 200 < deep + 1
          · exact leaf_over c hk hr h hdp hfu IH hs hd
          · cases hx : runM l f none 0 (k + 1) (deep + 1) with
            | stuck a => exact leaf_in_stuck c hk hr h hdp hfu IH hs (by omega) hx
            | ok x k' =>
              cases ho : isSignT (tokAt l k') bShut with
              | false => exact leaf_in_open c hk hr h hdp hfu IH hs (by omega) hx ho
              | true => exact leaf_in_shut c hk hr h hdp hfu IH hs (by omega) hx ho

end Go.Proofs.YtefcmijobbgpbaaGreatDoor
